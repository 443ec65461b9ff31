/- A part of a proof; no conditions. -/
import Derived.Test.YtegiclpanpmkdaaGreatDoorR02
import Derived.RangeFuncNested
import Derived.RangeFuncLeaves
set_option linter.all false
set_option maxRecDepth 100000
set_option maxHeartbeats 8000000
noncomputable section
section
namespace Go.Sx
open Go.RowKit
variable [aO]
section
variable {F:Fr} {w:World} {A:Nat->Prop} {X:Refs} {h:Hp} {P:Program}
def qS:Option Int->Option Value->Prop
 | none,none=>True
 | some n,some u=>∃k,u=.int k n
 | _,_=>False
omit [aO]in
theorem ot{s:Bool}{len cap:Nat}{lo hi:Option Int}{ul uh:Option Value}(hlo:qS lo ul)(v3:qS hi uh)(h1:0<=lo.getD 0)(h2:lo.getD 0<=hi.getD len)(h3:hi.getD len<=cap) :
  (Instr.sliceBounds s len cap ul uh none).run P w=.ok ((lo.getD 0).toNat,(hi.getD len).toNat,cap) w:=by
 unfold Instr.sliceBounds;have hb:∀(k:IntKind) (i:Int) (y:Nat) (c:BoundsCode),0<=i->i<=y->(Instr.sliceBound (.int k i) y c).run P w=.ok i.toNat w:=by intro k i y c g1 g2;simp [Instr.sliceBound,asIntOf,g1,g2]
 cases lo with
 | none=>
  cases ul with
  | some=>exact hlo.elim
  | none=>
   cases hi with
   | none=>
    cases uh with
    | some=>exact v3.elim
    | none=>simp
   | some n=>
    cases uh with
    | none=>exact v3.elim
    | some u=>
     obtain⟨k,rfl⟩:=v3;simp only [Option.getD_some,Option.getD_none]at h1 h2 h3;simp [hb k n cap _ h2 h3]
 | some m=>
  cases ul with
  | none=>exact hlo.elim
  | some u=>
   obtain⟨k,rfl⟩:=hlo;cases hi with
   | none=>
    cases uh with
    | some=>exact v3.elim
    | none=>
     simp only [Option.getD_some,Option.getD_none]at h1 h2 h3;simp [hb k m len _ h1 h2]
   | some n=>
    cases uh with
    | none=>exact v3.elim
    | some u=>
     obtain⟨k',rfl⟩:=v3;simp only [Option.getD_some]at h1 h2 h3;simp [hb k' n cap _ (by omega) h3,hb k m n.toNat _ h1 (by omega)]
omit [aO]in
theorem eP{T e:TypeId}(hu:P.underlying T=some (.slice e))(h0:0<P.cellsOf e){a:Option Addr}{len cap:Nat}{lo hi:Option Int}{ul uh:Option Value}(hlo:qS lo ul)(v3:qS hi uh)
  (h1:0<=lo.getD 0) (h2:lo.getD 0<=hi.getD len) (h3:hi.getD len<=cap) :
  (Instr.sliceAt T (.slice a len cap) ul uh none).run P w=.ok (.slice (if cap=(lo.getD 0).toNat then a else a.map (·.add ((lo.getD 0).toNat * P.cellsOf e))) ((hi.getD len).toNat - (lo.getD 0).toNat) (cap - (lo.getD 0).toNat)) w:=by
 have hb:=ot (P:=P) (w:=w) (s:=true) hlo v3 h1 h2 h3;simp [Instr.sliceAt,Instr.slice,run_underlying hu,hb,bY h0]
omit [aO]in
theorem qc{T e:TypeId}(hu:P.underlying T=some (.slice e))(h0:0<P.cellsOf e){a:Option Addr}{len cap:Nat}{lo:Option Int}{hi m:Int}{ul uh um:Option Value}(hlo:qS lo ul)(v3:qS (some hi) uh)(hm:qS (some m) um)
  (h1:0<=lo.getD 0) (h2:lo.getD 0<=hi) (h3:hi<=m) (h4:m<=cap):∃r,(Instr.sliceAt T (.slice a len cap) ul uh um).run P w=.ok r w:=by
 have hb:∀(k:IntKind) (i:Int) (y:Nat) (c:BoundsCode),0<=i->i<=y->(Instr.sliceBound (.int k i) y c).run P w=.ok i.toNat w:=by intro k i y c g1 g2;simp [Instr.sliceBound,asIntOf,g1,g2]
 cases uh with
 | none=>exact v3.elim
 | some uh=>
  cases um with
  | none=>exact hm.elim
  | some um=>
   obtain⟨k1,rfl⟩:=v3;obtain⟨k2,rfl⟩:=hm;have Aj:∃l,(Instr.sliceBounds true len cap ul (some (.int k1 hi)) (some (.int k2 m))).run P w=.ok (l,hi.toNat,m.toNat) w:=by
    unfold Instr.sliceBounds;cases lo with
    | none=>
     cases ul with
     | some=>exact hlo.elim
     | none=>
      simp only [Option.getD_none]at h1 h2;exact⟨0,by simp [hb k2 m cap _ (by omega) h4,hb k1 hi m.toNat _ (by omega) (by omega)]⟩
    | some q=>
     cases ul with
     | none=>exact hlo.elim
     | some u=>
      obtain⟨k,rfl⟩:=hlo;simp only [Option.getD_some]at h1 h2;exact⟨q.toNat,by simp [hb k2 m cap _ (by omega) h4,hb k1 hi m.toNat _ (by omega) (by omega),hb k q hi.toNat _ h1 (by omega)]⟩
   obtain⟨l,Aj⟩:=Aj;exact⟨.slice (if m.toNat=l then a else a.map (·.add (l * P.cellsOf e))) (hi.toNat - l) (m.toNat - l),by simp [Instr.sliceAt,Instr.slice,run_underlying hu,Aj,bY h0]⟩
omit [aO]in
theorem rI{T e:TypeId}{n:Nat}(hu:P.underlying T=some (.array n e))(h0:0<P.cellsOf e){a:Addr}{lo hi:Option Int}{ul uh:Option Value}(hlo:qS lo ul)(v3:qS hi uh)
  (h1:0<=lo.getD 0) (h2:lo.getD 0<=hi.getD n) (h3:hi.getD n<=n) :
  (Instr.sliceAt T (.pointer (some a)) ul uh none).run P w=.ok (.slice (some (if n=(lo.getD 0).toNat then a else a.add ((lo.getD 0).toNat * P.cellsOf e))) ((hi.getD n).toNat - (lo.getD 0).toNat) (n - (lo.getD 0).toNat)) w:=by
 have hb:=ot (P:=P) (w:=w) (s:=false) hlo v3 h1 h2 h3;simp [Instr.sliceAt,Instr.sureAddr,run_underlying hu,hb,bY h0]
omit [aO]in
theorem PV.piece{z:Nat}{els:List (List V)}{b off cap:Nat}{us:Nat->Nat->Value}(v7:els.length<=cap)(hb:b<w.heap.size)(hA:¬ A b)(hz:∀row∈els,row.length=z)
  (hc:∀e j row c,els[e]?=some row->row[j]?=some c->w.cell? ⟨b,off+e * z+j,none⟩=some (us e j)/\(us e j).oneCell'=true)
  (hv:∀e j row c,els[e]?=some row->row[j]?=some c->PV w A c (us e j)) {l m:Nat} (hl:l<=m) (hm:m<=els.length) :
  PV w A (.sl z ((els.drop l).take (m - l))) (.slice (if cap=l then some ⟨b,off,none⟩else some ((⟨b,off,none⟩:Addr).add (l * z))) (m - l) (cap - l)):=by
 have hlen:((els.drop l).take (m - l)).length=m - l:=by simp;omega
 by_cases he:m - l=0
 ·have h0:(els.drop l).take (m - l)=[]:=List.eq_nil_of_length_eq_zero (by omega);rw [h0,he];exact .xV z _ _
 ·rw [if_neg (by omega),dJ]
  have:=PV.sl (w:=w) (A:=A) z ((els.drop l).take (m - l)) b (off+l * z) (cap - l) (fun e j=>us (l+e) j) (by omega) hb hA (fun row hr=>hz row (List.mem_of_mem_drop (List.mem_of_mem_take hr)))
   (fun e j row c he hj=>by have v0:e<m - l:=(by have:=(List.getElem?_eq_some_iff.1 he).1;omega);rw [List.getElem?_take_of_lt v0,List.getElem?_drop]at he;have:=hc _ j row c he hj;rw [Nat.add_mul]at this;rw [show off+l * z+e * z+j=off+(l * z+e * z)+j by omega];exact this)
   (fun e j row c he hj=>by have v0:e<m - l:=(by have:=(List.getElem?_eq_some_iff.1 he).1;omega);rw [List.getElem?_take_of_lt v0,List.getElem?_drop]at he;exact hv _ j row c he hj)
  rw [hlen]at this;exact this
omit [aO]in
theorem PV.Gk{row:List V}{b off n:Nat}{us:Nat->Value}(hb:b<w.heap.size)(hA:¬ A b)(hn:n<=row.length)
  (hc:∀(k:Nat) (c:V),row[k]?=some c->w.cell? ⟨b,off+k,none⟩=some (us k)/\(us k).oneCell'=true/\PV w A c (us k)) {l m:Nat} (hl:l<=m) (hm:m<=n) :
  PV w A (.sl 1 (((row.drop l).take (m - l)).map fun c=>[c])) (.slice (some (if n=l then ⟨b,off,none⟩else (⟨b,off,none⟩:Addr).add (l * 1))) (m - l) (n - l)):=by
 have hlen:(((row.drop l).take (m - l)).map fun c=>[c]).length=m - l:=by simp;omega
 by_cases he:m - l=0
 ·have h0:((row.drop l).take (m - l)).map (fun c=>[c])=[]:=List.eq_nil_of_length_eq_zero (by rw [hlen];exact he);rw [h0,he];exact .xV 1 _ _
 ·rw [if_neg (by omega),dJ];have get:∀(e j:Nat) (r:List V) (c:V),(((row.drop l).take (m - l)).map fun c=>[c])[e]?=some r->r[j]?=some c->j=0/\row[l+e]?=some c:=by
   intro e j r c h1 h2;rw [List.getElem?_map]at h1;cases hx:((row.drop l).take (m - l))[e]? with
   | none=>simp [hx]at h1
   | some x=>
    simp [hx]at h1;subst h1;have v0:e<m - l:=(by have:=(List.getElem?_eq_some_iff.1 hx).1;rw [List.length_take]at this;omega);rw [List.getElem?_take_of_lt v0,List.getElem?_drop]at hx;cases j with
    | zero=>simp at h2;subst h2;exact⟨rfl,hx⟩
    | succ j=>simp at h2
  have:=PV.sl (w:=w) (A:=A) 1 (((row.drop l).take (m - l)).map fun c=>[c]) b (off+l * 1) (n - l) (fun e _=>us (l+e)) (by omega) hb hA (fun r hr=>by obtain⟨c,_,rfl⟩:=List.mem_map.1 hr;rfl)
   (fun e j r c he hj=>by obtain⟨rfl,hg⟩:=get e j r c he hj;obtain⟨g1,g2,_⟩:=hc _ c hg;rw [show off+l * 1+e * 1+0=off+(l+e) by omega];exact⟨g1,g2⟩)
   (fun e j r c he hj=>by obtain⟨rfl,hg⟩:=get e j r c he hj;exact(hc _ c hg).2.2)
  rw [hlen]at this;exact this
theorem CY{T:TypeId}{x:V}{u:Value}{lo hi mx:Option (Option Int)}{ul uh um:Option Value}(hI:Inv F w A X h)(hr:RV w A X x u)
  (hlo:∀r,lo=some r->qS r ul) (v3:∀r,hi=some r->qS r uh) (wZ:∀r,mx=some r->qS r um) (hc:(zy P T x lo hi mx h).1) :
  ∃r,(Instr.sliceAt T u ul uh um).run P w=.ok r w/\RV w A X (zy P T x lo hi mx h).2 r:=by
 unfold zy at hc ⊢;split at hc
 ·rename_i lo hi;have hlo:=hlo lo rfl;have v3:=v3 hi rfl;have wZ:=wZ none rfl;cases um with
  | some=>exact wZ.elim
  | none=>
   simp only at hc ⊢;split at hc
   ·
    obtain⟨h1,h2,h3,h4⟩:=hc;cases hs:cm P T with
    | none=>exact absurd hs h1
    | some e=>
     rw [hr.dY];have hz:0<P.cellsOf e:=(by simpa [hs]using h4);have:=eP (P:=P) (w:=w) (cH hs) hz (a:=none) (len:=0) (cap:=0) hlo v3 (by omega) (by simpa [h2]using (by rw [show((0:Nat):Int)=0 from rfl,h3];exact Int.le_refl 0:(0:Int)<=hi.getD ((0:Nat):Int))) (by rw [show((0:Nat):Int)=0 from rfl,h3];exact Int.le_refl 0);refine⟨.slice none 0 0,?_,.pure .nil⟩;rw [this,h2,show hi.getD ((0:Nat):Int)=0 from h3];simp
   ·
    rename_i z els;obtain⟨h1,h2,h3,h4,h5,h6⟩:=hc;cases hs:cm P T with
    | none=>exact absurd hs h1
    | some e=>
     have hz:P.cellsOf e=z:=(by simpa [hs]using h2);have h':=hr.nv;cases h' with
     | xV _ a cap=>
      simp only [List.length_nil]at h4 h5;have:=eP (P:=P) (w:=w) (cH hs) (by rw [hz];exact h6) (a:=a) (len:=0) (cap:=cap) hlo v3 h3 h4 (by omega);refine⟨_,this,.pure ?_⟩;simp only [List.drop_nil,List.take_nil,List.length_nil];have e0:(hi.getD ((0:Nat):Int)).toNat - (lo.getD 0).toNat=0:=(by omega);rw [e0];exact .xV _ _ _
     | sl _ _ b off cap us v7 hb hA Eh v5 hv=>
      have:=eP (P:=P) (w:=w) (cH hs) (by rw [hz];exact h6) (a:=some ⟨b,off,none⟩) (len:=els.length) (cap:=cap) hlo v3 h3 h4 (by omega);refine⟨_,this,.pure ?_⟩;have hp:=PV.piece (w:=w) (A:=A) v7 hb hA Eh v5 hv (l:=(lo.getD 0).toNat) (m:=(hi.getD els.length).toNat) (by omega) (by omega);rw [hz];simpa using hp
   ·
    rename_i z els e j;cases ha:cS P T with
    | none=>simp [ha]at hc
    | some ne=>
     obtain⟨n,el⟩:=ne;simp only [ha]at hc ⊢;obtain⟨h1,h2,h3,h4,h5,h6⟩:=hc;have h':=hr.rO;cases h' with
     | ip _ _ _ _ b off us hb hA hz v5 hv=>
      have hrun:=rI (P:=P) (w:=w) (kQ ha) (by omega) (a:=⟨b,off+e * z+j,none⟩) hlo v3 h2 h3 h4;have v4:(els.getD e []).length=z:=hz _ (List.mem_of_getElem? (iY h5));refine⟨_,hrun,.pure ?_⟩;rw [h1];exact PV.Gk (w:=w) (A:=A) (row:=(els.getD e []).drop j) (n:=n) (us:=fun k=>us e (j+k)) hb hA (by rw [List.length_drop];omega) (fun k c hk=>by rw [List.getElem?_drop]at hk;have g:=v5 e _ _ c (iY h5) hk;rw [show off+e * z+j+k=off+e * z+(j+k) by omega];exact⟨g.1,g.2,hv e _ _ c (iY h5) hk⟩) (l:=(lo.getD 0).toNat) (m:=(hi.getD n).toNat) (by omega) (by omega)
   ·
    rename_i s i n0 e j;cases ha:cS P T with
    | none=>simp [ha]at hc
    | some ne=>
     obtain⟨n,el⟩:=ne;cases hg:aL h s i with
     | none=>simp [ha,hg]at hc
     | some B=>
      simp only [ha,hg]at hc ⊢;obtain⟨hfz,cZ,z6,h1,h2,h3,h4,h5,h6⟩:=hc;obtain⟨a,rfl,_,_,y1⟩:=hr.iZ;have hb:=hI.blk s i B hg;have GQ:=y1 (by rw [hb.hlen];exact z6);rw [hb.hz]at GQ;subst GQ;have hrun:=rI (P:=P) (w:=w) (kQ ha) (by omega) (a:=⟨(X.D s i).b,(X.D s i).o+e * B.z+j,none⟩) hlo v3 h2 h3 h4;have v4:(B.els.getD e []).length=B.z:=hb.rows _ (List.mem_of_getElem? (iY h5));refine⟨_,hrun,.pure ?_⟩;rw [h1];have vW:(X.D s i).b<w.heap.size/\¬ A (X.D s i).b:=by
       rcases hb.mem with⟨_,hh⟩|⟨arr,cap,g1,g2,g3,g4,g5,g6,g7,g8⟩
       ·rw [hh]at h5;simp at h5
       ·exact⟨(Array.getElem?_eq_some_iff.1 g1).1,g7 hfz⟩
      exact PV.Gk (w:=w) (A:=A) (row:=(B.els.getD e []).drop j) (n:=n) (us:=fun k=>(w.cell? ⟨(X.D s i).b,(X.D s i).o+e * B.z+(j+k),none⟩).getD gC) vW.1 vW.2 (by rw [List.length_drop];omega) (fun k c hk=>by rw [List.getElem?_drop]at hk;obtain⟨u,g1,g2,g3,g4⟩:=hI.cells hg h5 _ c hk;simp only [g1,Option.getD_some];rw [show(X.D s i).o+e * B.z+j+k=(X.D s i).o+e * B.z+(j+k) by omega];exact⟨g1,g2,g4 cZ⟩) (l:=(lo.getD 0).toNat) (m:=(hi.getD n).toNat) (by omega) (by omega)
   ·
    rename_i s i n;cases hg:aL h s i with
    | none=>simp [hg]at hc
    | some B=>
     simp only [hg]at hc ⊢;cases hfz:B.fz with
     | false=>
      rw [hfz]at hc;simp only at hc ⊢;obtain⟨h1,h2,h3,h4,h5,h6,h7,OS⟩:=hc;cases hs:cm P T with
      | none=>exact absurd hs h1
      | some e=>
       have hz:P.cellsOf e=B.z:=(by simpa [hs]using h2);obtain⟨a,c,rfl,hN,hn',hv⟩:=hr.gp;have hb:=hI.blk s i B hg;have fJ:=hv (by rw [hb.hlen];exact h3);rcases hb.mem with⟨_,hh⟩|⟨arr,cap,g1,g2,g3,g4,g5,g6,g7,g8⟩
       ·rw [hh]at h3;simp at h3;omega
       ·rw [g2]at fJ;injection fJ with e1 e2 e3;subst e1 e3;have hrun:=eP (P:=P) (w:=w) (cH hs) (by rw [hz];exact OS) (a:=some ⟨(X.D s i).b,(X.D s i).o,none⟩) (len:=n) (cap:=c) hlo v3 h4 h5 (by omega);refine⟨_,hrun,?_⟩;rw [if_neg (by omega)];refine .gY s i n (lo.getD 0).toNat _ _ (Addr.add ⟨(X.D s i).b,(X.D s i).o,none⟩ ((lo.getD 0).toNat * P.cellsOf e)) _ (by omega) hN hn' fun _=>⟨by rw [dJ,hb.hz,hz],?_⟩
        have:(X.D s i).cap=c:=(by unfold Hd.cap;rw [g2]);omega
     | true=>
     rw [hfz]at hc;simp only at hc ⊢;obtain⟨h1,h2,h3,z6,h4,h5,h6,cZ,OS⟩:=hc;cases hs:cm P T with
     | none=>exact absurd hs h1
     | some e=>
      have hz:P.cellsOf e=B.z:=(by simpa [hs]using h2);obtain⟨a,c,rfl,hN,hn',hv⟩:=hr.gp;have hb:=hI.blk s i B hg;have fJ:=hv (by rw [hb.hlen];exact h3);rcases hb.mem with⟨_,hh⟩|⟨arr,cap,g1,g2,g3,g4,g5,g6,g7,g8⟩
      ·rw [hh]at h3;simp at h3;omega
      ·rw [g2]at fJ;injection fJ with e1 e2 e3;subst e1 e3;have hrun:=eP (P:=P) (w:=w) (cH hs) (by rw [hz];exact OS) (a:=some ⟨(X.D s i).b,(X.D s i).o,none⟩) (len:=n) (cap:=c) hlo v3 h4 h5 (by omega);refine⟨_,hrun,.pure ?_⟩;have hp:=PV.piece (w:=w) (A:=A) (off:=(X.D s i).o) (us:=fun e j=>(w.cell? ⟨(X.D s i).b,(X.D s i).o+e * B.z+j,none⟩).getD gC) g3 (Array.getElem?_eq_some_iff.1 g1).1 (g7 hfz) hb.rows (fun e j row c he hj=>by
        obtain⟨u,k1,k2,k3,k4⟩:=g6 e j row c he hj;have v5:w.cell? ⟨(X.D s i).b,(X.D s i).o+e * B.z+j,none⟩=some u:=(by simp [World.cell?,g1,k1]);simp only [v5,Option.getD_some];exact⟨trivial,k2⟩) (fun e j row c he hj=>by
        obtain⟨u,k1,k2,k3,k4⟩:=g6 e j row c he hj;have v5:w.cell? ⟨(X.D s i).b,(X.D s i).o+e * B.z+j,none⟩=some u:=(by simp [World.cell?,g1,k1]);simp only [v5,Option.getD_some];exact k4 cZ) (l:=(lo.getD 0).toNat) (m:=(hi.getD n).toNat) (by omega) (by omega)
       rw [hz];simpa using hp
   ·
    rename_i s i n off len cap;obtain⟨⟨h1,h2,h3,h4,h5,h6⟩,h7⟩:=hc;cases hs:cm P T with
    | none=>exact absurd hs h1
    | some e=>
     have hz:0<P.cellsOf e:=(by simpa [hs]using h2);obtain⟨a,c,rfl,mK,hN,hn',hv⟩:=hr.gq;have hrun:=eP (P:=P) (w:=w) (cH hs) hz (a:=some a) (len:=len) (cap:=c) hlo v3 h3 h4 (by omega);generalize hl:(lo.getD 0).toNat=l at *;rcases h7 with h7|⟨h7,h8⟩
     ·have y2:l=0:=(by omega);subst y2;refine⟨_,hrun,?_⟩;have ha:(if c=0 then some a else (some a).map (·.add (0 * P.cellsOf e)))=some a:=by
       split
       ·rfl
       ·simp [Addr.add]
      rw [ha];exact .gY s i n off _ cap a _ mK hN hn' hv
     ·refine⟨_,hrun,?_⟩;have cZ:¬ c=l:=(by omega);rw [if_neg cZ];cases hg:aL h s i with
      | none=>rw [hg]at h8;exact h8.elim
      | some B=>
       rw [hg]at h8;have y3:P.cellsOf e=B.z:=(by simpa [hs]using h8);have hb:=hI.blk s i B hg;refine .gY s i n (off+l) _ (cap - l) (a.add (l * P.cellsOf e)) _ (by omega) hN hn' fun hh=>?_;obtain⟨v1,v2⟩:=hv hh;refine⟨by rw [v1,dJ,hb.hz,y3,Nat.add_mul,Nat.add_assoc],by omega⟩
   ·exact hc.elim
 ·rename_i lo hi m;have hlo:=hlo lo rfl;have v3:=v3 (some hi) rfl;have wZ:=wZ (some m) rfl;split at hc
  ·rename_i s i n;cases hg:aL h s i with
   | none=>simp [hg]at hc
   | some B=>
    simp only [hg]at hc ⊢;obtain⟨h1,h2,h3,h4,h5,h6,h7⟩:=hc;cases hs:cm P T with
    | none=>exact absurd hs h1
    | some e=>
     have hz:0<P.cellsOf e:=(by simpa [hs]using h2);obtain⟨a,c,rfl,hN,hn',hv⟩:=hr.gp;have hb:=hI.blk s i B hg;have fJ:=hv (by rw [hb.hlen];exact h3);have v7:n<=c:=by
      rcases hb.mem with⟨yv,hh⟩|⟨arr,cap,g1,g2,g3,g4,g5,g6,g7,g8⟩
      ·rw [hh]at h3;simp at h3;omega
      ·rw [g2]at fJ;injection fJ with e1 e2 e3;omega
     obtain⟨r,hrun⟩:=qc (P:=P) (w:=w) (cH hs) hz (a:=a) (len:=n) (cap:=c) hlo v3 wZ h4 h5 h6 (by omega);exact⟨r,hrun,.pure (.top _)⟩
  ·rename_i s i n off len cap;obtain⟨h1,h2,h3,h4,h5,h6⟩:=hc;cases hs:cm P T with
   | none=>exact absurd hs h1
   | some e=>
    have hz:0<P.cellsOf e:=(by simpa [hs]using h2);obtain⟨a,c,rfl,mK,hN,hn',hv⟩:=hr.gq;obtain⟨r,hrun⟩:=qc (P:=P) (w:=w) (cH hs) hz (a:=some a) (len:=len) (cap:=c) hlo v3 wZ h3 h4 h5 (by omega);exact⟨r,hrun,.pure (.top _)⟩
  ·exact hc.elim
 ·exact hc.elim
omit [aO]in
theorem vB(P:Program)(t it ty e:TypeId)(k k':IntKind)(i:TypeInfo)(z:Value)(ht:P.underlying t=some (.slice e))(y4:P.underlying it=some (.int k))(hi:P.info? e=some i)(hz:i.zero=some z)(Ww:0<i.size)
  {m:Nat} (h0:0<m) (yB:(m:Int)<=9223372036854775807) (yC:m * i.bytes<=281474976710656) :
  (Builtin.append_ #[t,it] ty #[.slice none 0 0,.int k' m]).run P w =
   .ok (.slice (some ⟨w.heap.size,0,none⟩) m (grownCap w m 0 e)) (w.drew.alloc (.cells (Builtin.zeroCells z.cells m++Builtin.zeroCells z.cells (grownCap w m 0 e - m)) e)):=by
 have hn:¬ m=0:=by omega
 have hw:IntKind.wrap .i64 (m:Int)=m:=by rw [IntKind.wrap_i64];omega
 have zK:¬ (9223372036854775807<(m:Int)):=by omega
 have UP:¬ (281474976710656<Builtin.nextslicecap m 0 * i.bytes):=by rw [nextslicecap_zero h0];omega
 have akW:¬ (281474976710656<(m:Int) * (i.bytes:Int)):=by
  have:((m * i.bytes:Nat):Int)=(m:Int) * (i.bytes:Int):=by simp
  omega
 have y5:¬ (m * i.size=0):=Nat.ne_of_gt (Nat.mul_pos h0 Ww);have y6:¬ (m:Int)<0:=by omega
 simp [Builtin.append_,run_underlying ht,run_underlying y4,sizeOf,typeInfo,zeroValue,hi,hz,Builtin.lenOf,hn,hw,zK,UP,akW,Question.forced,run_firstCells_none,newRow,grownCap,asInt,asIntOf,y6];intro hh;exact absurd hh y5
theorem Aw{own:Bool}{key:Nat}{T T2 ty:TypeId}{s x:V}{us ux:Value}(hI:Inv F w A X h)(hs:RV w A X s us)(hx:RV w A X x ux)(hc:(gI P own key T T2 s x h).c) :
  ∃r w' A' X',(Builtin.append_ #[T,T2] ty #[us,ux]).run P w=.ok r w'/\bC w A w' A'/\fH X X'/\Inv F w' A' X' (gI P own key T T2 s x h).h/\RV w' A' X' (gI P own key T T2 s x h).v r:=by
 unfold gI at hc ⊢;split at hc
 ·rename_i e k k' m Ei z7;have hu:=cH Ei;rw [hs.dY,hx.dV];obtain⟨c0,c1,c3,c4,c5,c6,c7⟩:=hc;obtain⟨i,zv,hi,arZ,hz,uw,hsz⟩:=gm c4 c3;have y7:P.bytesOf e=i.bytes:=by simp [Program.bytesOf,hi]
  obtain⟨q,rfl⟩:=Int.eq_ofNat_of_zero_le (Int.le_of_lt c1);have zY:P.underlying T2=some (.int k):=by unfold wI at z7;split at z7<;>simp_all
  have yO:q * i.bytes<=140737488355328:=by rw [y7]at c6;have:((q * i.bytes:Nat):Int)=(q:Int) * (i.bytes:Int):=(by simp);omega
  have hr:=vB (w:=w) P T T2 ty e k k' i zv hu zY hi hz (by omega) (m:=q) (by omega) c7 (by omega);obtain⟨y8,vX⟩:=hI.drew;have y9:q<=maxLen:=by simp only [maxLen];omega
  have v7:=grownCap_ge w q 0 e;have yb:=grownCap_le_maxLen w q 0 e y9;have z0:∀(e1 j:Nat) (row:List V) (c:V),(List.replicate q (zc P e))[e1]?=some row->row[j]?=some c->∃u,(Builtin.zeroCells zv.cells q++Builtin.zeroCells zv.cells (grownCap w q 0 e - q))[e1 * P.cellsOf e+j]?=some u/\u.oneCell'=true/\RV w.drew A X c u/\(true=true->PV w.drew A c u):=by
   intro e1 j row c he hj;have v0:e1<q:=(by have:=(List.getElem?_eq_some_iff.1 he).1;simpa using this);have v4:row=zc P e:=List.eq_of_mem_replicate (List.mem_of_getElem? he);subst v4;have vy:j<zv.cells.size:=(by have:=(List.getElem?_eq_some_iff.1 hj).1;omega);have yc:e1 * zv.cells.size+j<(Builtin.zeroCells zv.cells q).size:=(by rw [size_zeroCells];exact rP v0 vy);have hg:(Builtin.zeroCells zv.cells q++Builtin.zeroCells zv.cells (grownCap w q 0 e - q))[e1 * P.cellsOf e+j]?=zv.cells[j]?:=by rw [<-hsz,Array.getElem?_append_left yc];exact xY v0 vy
   rw [hg];have hok:=fm (w:=w.drew) (A:=A) (X:=X) (zs:=zv.cells) (by rw [<-uw];exact c5);rw [<-uw]at hok;obtain⟨u,k1,k2,k3⟩:=hok.2 j c hj;refine⟨u,k1,k2,k3,fun _=>?_⟩;rw [uw]at hj;obtain⟨x,hx,hp⟩:=qq (w:=w.drew) (A:=A) hj;have hx':zv.cells[j]?=some x:=(by simpa using hx);rw [k1]at hx';cases hx';exact hp
  have z5:(Builtin.zeroCells zv.cells q++Builtin.zeroCells zv.cells (grownCap w q 0 e - q)).size=grownCap w q 0 e * P.cellsOf e:=by rw [Array.size_append,size_zeroCells,size_zeroCells,hsz,<-Nat.add_mul];congr 1;omega
  have fB:=vX.alloc key {z:=P.cellsOf e,els:=List.replicate q (zc P e),ty:=e} _ (grownCap w q 0 e) rfl (by simp;exact v7) yb (fun row hr=>by rw [List.eq_of_mem_replicate hr];exact c3) z5 z0;simp only [Int.toNat_natCast];refine⟨_,_,_,_,hr,y8.trans (vX.fW _),vX.nw key _ _,fB,?_⟩;exact .gY _ _ _ _ _ _ _ _ v7 (by simp [bT]) (by simp [bT]) (fun _=>by simp [bT,Hd.cap])
 ·exact hc.elim
end
end Go.Sx
end
section
namespace Go.Sx
open Go.RowKit
variable [aO]
section
variable {F:Fr} {w:World} {A:Nat->Prop} {X:Refs} {h:Hp} {P:Program}
theorem Inv.Vz(hI:Inv F w A X h){s i:Nat}{B:dZ}(hB:aL h s i=some B)(hfz:B.fz=false)(key:Nat){off k c:Nat}{a:Option Addr}(anv:off+k<=B.els.length)
  (hu:(a=none/\k=0/\c=0)\/∃o',a=some ⟨(X.D s i).b,o',none⟩/\(X.D s i).real/\o'+c * B.z<=(X.D s i).o+(X.D s i).cap * B.z/\c<=(X.D s i).cap/\k<=c/\(k=0\/o'=(X.D s i).o+off * B.z)) :
  ∃X',fH X X'/\Inv F w A X' (bD (tV h s i) key {B with els:=(B.els.drop off).take k})/\RV w A X' (.bw key (hnext h key) k) (.slice a k c)/\(X'.D key (hnext h key)).v=.slice a k c:=by
 have hb:=hI.blk s i B hB;have v0:=JM hB;have z8:hnext (tV h s i) key=hnext h key:=BO v0 key;have hlen:((B.els.drop off).take k).length=k:=by simp;omega
 obtain⟨d',yg,z9,Cx,za⟩:∃d':Hd,d'.z=B.z/\d'.len=k/\d'.v=.slice a k c/\
   ((a=none/\k=0/\c=0)\/∃o',d'.b=(X.D s i).b/\d'.o=o'/\a=some ⟨(X.D s i).b,o',none⟩/\(X.D s i).real/\o'+c * B.z<=(X.D s i).o+(X.D s i).cap * B.z/\c<=(X.D s i).cap/\k<=c/\(k=0\/o'=(X.D s i).o+off * B.z)):=by
  rcases hu with hu|⟨o',h1,h2⟩
  ·exact⟨{b:=0,z:=B.z,len:=k,v:=.slice a k c},rfl,rfl,rfl,.inl hu⟩
  ·exact⟨{b:=(X.D s i).b,z:=B.z,len:=k,v:=.slice a k c,o:=o'},rfl,rfl,rfl,.inr ⟨o',rfl,rfl,h1,h2⟩⟩
 let X':Refs:={D:=fun s' i'=>if s'=key/\i'=hnext h key then d' else X.D s' i',N:=fun s'=>if s'=key then hnext h key+1 else X.N s'}
 have hX:fH X X':=by
  intro s' i' hi;have:=hI.nb s';constructor
  ·simp only [X'];split
   ·rename_i hs;subst hs;omega
   ·exact hi
  ·left;simp only [X'];rw [if_neg];rintro⟨rfl,rfl⟩;omega
 have Mc:X'.D key (hnext h key)=d':=by simp [X']
 have va:∀s' i',¬ (s'=key/\i'=hnext h key)->X'.D s' i'=X.D s' i':=fun s' i' hn=>by simp only [X'];rw [if_neg hn]
 have get:∀{s' i' B'},aL (bD (tV h s i) key {B with els:=(B.els.drop off).take k}) s' i'=some B'->
   (s'=key/\i'=hnext h key/\B'={B with els:=(B.els.drop off).take k})\/(¬ (s'=key/\i'=hnext h key)/\aL h s' i'=some B'/\¬ (s'=s/\i'<=i)):=by
  intro s' i' B' mg;by_cases vs:s'=key/\i'=hnext h key
  ·obtain⟨rfl,rfl⟩:=vs;rw [<-z8,dI]at mg;exact .inl ⟨rfl,rfl,(Option.some.inj mg).symm⟩
  ·rw [eL _ _ _ _ _ (fun e hi=>vs ⟨e,by rw [hi,z8]⟩),UI]at mg;split at mg
   ·cases mg
   ·rename_i hc;exact .inr ⟨vs,mg,hc⟩
 refine⟨X',hX,{gl:=hI.gl,oV:=hI.oV,iE:=hI.iE,ep:=hI.ep,os:=hI.os,tape:=hI.tape,output:=hI.output,size:=hI.size,same:=hI.same,xle:=hI.xle.trans hX,nb:=?_,blk:=?_,inj:=?_},.bw key _ k a c (by simp [X']) (by rw [Mc,z9];exact Nat.le_refl _) (fun _=>by rw [Mc,Cx]),by rw [Mc,Cx]⟩
 ·intro s';rw [sB,BO v0];simp only [X'];have:=hI.nb s';split
  ·rename_i hs;subst hs;omega
  ·omega
 ·intro s' i' B' mg;rcases get mg with⟨rfl,rfl,rfl⟩|⟨hn,hg,_⟩
  ·refine {hN:=by simp [X'],hz:=by rw [Mc,yg],hlen:=by rw [Mc,z9,hlen],rows:=fun row hr=>hb.rows row (List.mem_of_mem_drop (List.mem_of_mem_take hr)),mem:=?_};rcases za with⟨e1,e2,e3⟩|⟨o',e1,e2,e3,e4,e5,e6,e7,e8⟩
   ·subst e1 e2 e3;exact .inl ⟨by rw [Mc,Cx],by simp⟩
   ·rcases hb.mem with hm|⟨arr,cap,h1,h2,h3,h4,h5,h6,h7,h8⟩
    ·exact absurd hm.1 e4
    ·have v7:(X.D s i).cap=cap:=(by unfold Hd.cap;rw [h2]);rw [v7]at e5 e6;refine .inr ⟨arr,c,by rw [Mc,e1];exact h1,by rw [Mc,Cx,e1,e2,hlen,e3],by rw [hlen];exact e7,by omega,by rw [Mc,e2];simp only;omega,?_,by rw [Mc,e1];exact h7,by rw [Mc,e1];exact h8⟩;intro e j row x he hj;have yh:e<k:=(by have:=(List.getElem?_eq_some_iff.1 he).1;rw [hlen]at this;exact this);rw [List.getElem?_take_of_lt yh,List.getElem?_drop]at he;obtain⟨u,g1,g2,g3,g4⟩:=h6 _ j row x he hj;refine⟨u,?_,g2,g3.mono (bC.refl w A) hX,g4⟩;rw [Mc,e2];have e8:=e8.resolve_left (by omega);rw [Nat.add_mul]at g1;rw [e8];simp only;rw [show(X.D s i).o+off * B.z+e * B.z+j=(X.D s i).o+(off * B.z+e * B.z)+j by omega];exact g1
  ·have ho:=hI.blk s' i' B' hg;have hD:=va s' i' hn;refine {hN:=(hX s' i' ho.hN).1,hz:=by rw [hD];exact ho.hz,hlen:=by rw [hD];exact ho.hlen,rows:=ho.rows,mem:=?_};rw [hD];rcases ho.mem with hm'|⟨Oe,cap',h1,h2,h3,h4,h5,h6,h7,h8⟩
   ·exact .inl hm'
   ·refine .inr ⟨Oe,cap',h1,h2,h3,h4,h5,?_,h7,h8⟩;intro e j row c he hj;obtain⟨u,g1,g2,g3,g4⟩:=h6 e j row c he hj;exact⟨u,g1,g2,g3.mono (bC.refl w A) hX,g4⟩
 ·intro s1 i1 B1 s2 i2 B2 ez kJ kR jP v8;have abH:∀s' i' B',aL h s' i'=some B'->¬ (s'=s/\i'<=i)->(X.D s' i').real->d'.real->d'.b=(X.D s' i').b->False:=by
   intro s' i' B' hg hc hr Ab e;rcases za with⟨e1,e2,e3⟩|⟨o',e1,e2,e3,e4,_⟩
   ·subst e1 e2 e3;exact Ab Cx
   ·obtain⟨rfl,rfl⟩:=hI.inj s' i' B' s i B hg hB hr e4 (by rw [<-e,e1]);exact hc ⟨rfl,Nat.le_refl _⟩
  rcases get ez with⟨rfl,rfl,rfl⟩|⟨MR,zd,yi⟩<;>rcases get kJ with⟨rfl,rfl,rfl⟩|⟨zo,zp,RW⟩
  ·exact⟨rfl,rfl⟩
  ·rw [Mc]at kR v8;rw [va _ _ zo]at jP v8;exact(abH _ _ _ zp RW jP kR v8).elim
  ·rw [Mc]at jP v8;rw [va _ _ MR]at kR v8;exact(abH _ _ _ zd yi kR jP v8.symm).elim
  ·rw [va _ _ MR]at kR v8;rw [va _ _ zo]at jP v8;exact hI.inj s1 i1 B1 s2 i2 B2 zd zp kR jP v8
theorem HX{key:Nat}{T:TypeId}{x:V}{u:Value}{lo hi mx:Option (Option Int)}{ul uh um:Option Value}(hI:Inv F w A X h)(hr:RV w A X x u)
  (hlo:∀r,lo=some r->qS r ul) (v3:∀r,hi=some r->qS r uh) (wZ:∀r,mx=some r->qS r um) (hc:(I6 P key T x lo hi mx h).c) :
  ∃r X',(Instr.sliceAt T u ul uh um).run P w=.ok r w/\fH X X'/\Inv F w A X' (I6 P key T x lo hi mx h).h/\RV w A X' (I6 P key T x lo hi mx h).v r:=by
 unfold I6 at hc ⊢;split at hc
 ·rename_i lo hi s i n e hs;have hlo:=hlo lo rfl;have v3:=v3 hi rfl;have wZ:=wZ none rfl;cases um with
  | some=>exact wZ.elim
  | none=>
  cases hg:aL h s i with
  | none=>simp [hg,bad]at hc
  | some B=>
   simp only [hg]at hc ⊢;obtain⟨h1,h2,h3,hfz,h4,h5,h6⟩:=hc;obtain⟨a,c,rfl,hN,hn',hv⟩:=hr.gp;have hb:=hI.blk s i B hg;have fJ:=hv (by rw [hb.hlen];exact h3);have OS:0<P.cellsOf e:=(by omega);generalize hl:(lo.getD 0).toNat=l at *;generalize hm:(hi.getD n).toNat=m at *;have yT:n<=c:=by
    rcases hb.mem with⟨k1,k2⟩|⟨arr,cap,g1,g2,g3,_⟩
    ·rw [k1]at fJ;injection fJ with e1 e2 e3;omega
    ·rw [g2]at fJ;injection fJ with e1 e2 e3;omega
   have hrun:=eP (P:=P) (w:=w) (cH hs) OS (a:=a) (len:=n) (cap:=c) hlo v3 h4 h5 (by omega);rw [hl,hm]at hrun;have hw:=hI.Vz hg hfz key (off:=l) (k:=m - l) (c:=c - l) (a:=if c=l then a else a.map (·.add (l * P.cellsOf e))) (by omega) (by
    rcases hb.mem with⟨k1,k2⟩|⟨arr,cap,g1,g2,g3,g4,g5,g6,g7,g8⟩
    ·rw [k1]at fJ;injection fJ with e1 e2 e3;subst e1;refine .inl ⟨by split<;>rfl,by omega,by omega⟩
    ·rw [g2]at fJ;injection fJ with e1 e2 e3;subst e1;have v7:(X.D s i).cap=cap:=(by unfold Hd.cap;rw [g2]);subst e3;refine .inr ⟨if c=l then (X.D s i).o else (X.D s i).o+l * P.cellsOf e,?_,by unfold Hd.real;rw [g2];simp,?_,by omega,by omega,?_⟩
     ·split
      ·rfl
      ·simp only [Option.map_some,dJ]
     ·rw [v7,<-h1];split
      ·rename_i e;rw [e,Nat.sub_self,Nat.zero_mul];omega
      ·have:l * B.z+(c - l) * B.z=c * B.z:=(by rw [<-Nat.add_mul];congr 1;omega);omega
     ·by_cases hk:m - l=0
      ·exact .inl hk
      ·right;rw [if_neg (by omega),h1])
   obtain⟨X',x1,x2,x3,_⟩:=hw;exact⟨_,X',hrun,x1,x2,x3⟩
 ·exact hc.elim
omit [aO]in
theorem aat(h:Hp)(z:Nat)(x:V):Oc h z x=fU h z x:=by cases x<;>rfl
omit [aO]in
theorem Gl{z:Nat}{x:V}{u:Value}{m:Nat}(hr:RV w A X x u)(hx:x.len=some m){k:Nat}(hk:k<=m)(hl:(fU h z (p8 k x)).2.1.length=k)(hc:(fU h z (p8 k x)).1) :
  ∃a c,u=.slice a m c/\RV w A X (p8 k x) (.slice a k c):=by
 obtain⟨a,c,rfl⟩:=hr.KP hx;refine⟨a,c,rfl,?_⟩;cases x<;>simp only [V.len,Option.some.injEq,reduceCtorEq]at hx
 case nil => subst hx;have : k = 0 := by omega
             subst this;exact hr
 case emp => subst hx;have : k = 0 := by omega
             subst this;exact hr
 case sl z els=>
  subst hx;have h':=hr.nv;simp only [p8];cases h' with
  | xV => have : k = 0 := by simpa using hk
          subst this;exact .pure (.xV _ _ _)
  | sl _ _ b off cap us v7 hb hA hz v5 hv=>
   have hp:=PV.sl (w:=w) (A:=A) z (els.take k) b off c us (by rw [List.length_take];omega) hb hA (fun row hr=>hz row (List.mem_of_mem_take hr))
    (fun e j row x he hj=>by rw [List.getElem?_take]at he;split at he;exact v5 e j row x he hj;cases he) (fun e j row x he hj=>by rw [List.getElem?_take]at he;split at he;exact hv e j row x he hj;cases he)
   rw [List.length_take,show min k els.length=k by omega]at hp;exact .pure hp
 case bw s i n=>
  subst hx;simp only [p8,fU]at hl hc ⊢;cases hg:aL h s i with
  | none=>simp [hg]at hc
  | some B=>
   simp only [hg]at hl hc;have:k=n:=(by omega);subst this;exact hr
 case gY s i n off len cap=>
  subst hx;simp only [p8];obtain⟨a',c',e,mK,hN,hn',hv⟩:=hr.gq;injection e with e1 e2 e3;subst e1 e3;rw [show min k len=k by omega];exact .gY s i n off k cap a' c mK hN hn' hv
structure Nws (w:World) (A:Nat->Prop) (X:Refs) (size:Nat) (els:List (List V)) (cl:Bool) (news:List Value):Prop where
 rows:∀row∈els,row.length=size
 len:news.length=els.length * size
 cells:∀e j row c,els[e]?=some row->row[j]?=some c->∃u,news[e * size+j]?=some u/\RV w A X c u/\(cl=true->PV w A c u)
 one:∀u∈news,u.oneCell'=true
theorem Inv.Md(hI:Inv F w A X h){s i:Nat}{B:dZ}(hB:aL h s i=some B)(hfz:B.fz=false){cI:List (List V)}{BR:Bool}{news:List Value}(v6:Nws w A X B.z cI BR news){off:Nat}(vb:B.els≠[])(vP:off+cI.length<=B.els.length) :
  ∃w',(storeCells ⟨(X.D s i).b,(X.D s i).o+off * B.z,none⟩ news).run P w=.ok () w'/\bC w A w' A/\
   Inv F w' A X (bE h s i {B with els:=B.els.take off++cI++B.els.drop (off+cI.length),cl:=B.cl && BR}):=by
 have hb:=hI.blk s i B hB;have fE:=hb.real vb;rcases hb.mem with hm|⟨arr,cap',h1,h2,h3,h4,h5,h6,h7,h8⟩
 ·exact absurd hm.2 vb
 have yj:(off+cI.length) * B.z<=cap' * B.z:=Nat.mul_le_mul_right _ (by omega);have z1:(X.D s i).o+off * B.z+news.length<=arr.toList.length:=by have e1:arr.toList.length=arr.size:=Array.length_toList;have e2:=v6.len;rw [Nat.add_mul]at yj;omega
 have hr:=run_storeCells_at P (X.D s i).b ((X.D s i).o+off * B.z) B.ty news 0 arr w h1 (by simpa using z1) v6.one;simp only [Nat.add_zero]at hr;refine⟨_,hr,hI.turn hB (by simp [World.setRow]) rfl rfl rfl hfz fE (fun b UM=>setRow_other w _ b _ UM) ?_⟩;intro hL;have hlen:(B.els.take off++cI++B.els.drop (off+cI.length)).length=B.els.length:=by simp only [List.length_append,List.length_take,List.length_drop];omega
 refine {hN:=hb.hN,hz:=hb.hz,hlen:=by rw [hb.hlen];exact hlen.symm,rows:=?_,mem:=.inr ⟨_,cap',setRow_heap w _ arr _ B.ty _ h1,by simp only [hlen];exact h2,by simp only [hlen];exact h3,h4,?_,?_,h7,h8⟩}
 ·intro row v4;simp only [List.mem_append]at v4;rcases v4 with(v4|v4)|v4
  ·exact hb.rows row (List.mem_of_mem_take v4)
  ·exact v6.rows row v4
  ·exact hb.rows row (List.mem_of_mem_drop v4)
 ·simp only [List.size_toArray,List.length_append,List.length_take,List.length_drop,Array.length_toList];simp at z1;omega
 ·intro e' j' row c he' hj';simp only at he';simp only [List.getElem?_toArray];rw [xK _ _ _ _ z1];rw [List.getElem?_append,List.getElem?_append]at he';simp only [List.length_append,List.length_take]at he';have y0:min off B.els.length=off:=by omega
  rw [y0]at he';by_cases c1:e'<off
  ·rw [if_pos (by omega),if_pos c1,List.getElem?_take_of_lt c1]at he';obtain⟨u,g1,g2,g3,g4⟩:=h6 e' j' row c he' hj';have zr:j'<B.z:=(by rw [<-hb.rows row (List.mem_of_getElem? he')];exact(List.getElem?_eq_some_iff.1 hj').1);refine⟨u,?_,g2,g3.mono hL (fH.refl X),fun cZ=>(g4 (by simp at cZ;exact cZ.1)).mono hL⟩;have:=rP c1 zr;rw [if_pos (by omega)];simpa using g1
  ·by_cases c2:e'<off+cI.length
   ·rw [if_pos c2,if_neg c1]at he';obtain⟨u,g1,g3,g4⟩:=v6.cells _ j' row c he' hj';have zr:j'<B.z:=(by rw [<-v6.rows row (List.mem_of_getElem? he')];exact(List.getElem?_eq_some_iff.1 hj').1);have k1:off * B.z<=e' * B.z:=Nat.mul_le_mul_right _ (by omega);have k2:(e' - off) * B.z=e' * B.z - off * B.z:=Nat.sub_mul ..;have k3:(e' - off) * B.z+j'<news.length:=(List.getElem?_eq_some_iff.1 g1).1;refine⟨u,?_,v6.one u (List.mem_of_getElem? g1),g3.mono hL (fH.refl X),fun cZ=>(g4 (by simp at cZ;exact cZ.2)).mono hL⟩;rw [if_neg (by omega),if_pos (by omega),show(X.D s i).o+e' * B.z+j' - ((X.D s i).o+off * B.z)=(e' - off) * B.z+j' by omega];exact g1
   ·rw [if_neg c2,List.getElem?_drop,show off+cI.length+(e' - (off+cI.length))=e' by omega]at he';obtain⟨u,g1,g2,g3,g4⟩:=h6 e' j' row c he' hj';have k1:(off+cI.length) * B.z<=e' * B.z:=Nat.mul_le_mul_right _ (by omega);rw [Nat.add_mul,<-v6.len]at k1;refine⟨u,?_,g2,g3.mono hL (fH.refl X),fun cZ=>(g4 (by simp at cZ;exact cZ.1)).mono hL⟩;rw [if_neg (by omega),if_neg (by omega)];simpa using g1
theorem Inv.afA(hI:Inv F w A X h){s i:Nat}{B:dZ}(hB:aL h s i=some B)(hfz:B.fz=false){cI:List (List V)}{BR:Bool}{news:List Value}{x:Value}(v6:Src P w A X B.z x cI BR news){off:Nat}(vb:B.els≠[])(vP:off+cI.length<=B.els.length) :
  ∃w',(storeCells ⟨(X.D s i).b,(X.D s i).o+off * B.z,none⟩ news).run P w=.ok () w'/\bC w A w' A/\
   Inv F w' A X (bE h s i {B with els:=B.els.take off++cI++B.els.drop (off+cI.length),cl:=B.cl && BR}):=
 hI.Md hB hfz ⟨v6.rows,v6.len,v6.cells,v6.one⟩ vb vP
theorem EZ{T T2 ty:TypeId}{d x:V}{ud ux:Value}(hI:Inv F w A X h)(hd:RV w A X d ud)(hx:RV w A X x ux)(hc:(zz P T d x h).c) :
  ∃r w',(Builtin.copy_ #[T,T2] ty #[ud,ux]).run P w=.ok r w'/\bC w A w' A/\Inv F w' A X (zz P T d x h).h/\RV w' A X (zz P T d x h).v r:=by
 unfold zz at hc ⊢;split at hc
 ·rename_i e s0 i0 n0 off len cap m hs hm;cases hg:aL h s0 i0 with
  | none=>simp [hg,bad]at hc
  | some B=>
   simp only [hg,aat]at hc ⊢;obtain⟨c1,c2,c3,c4,c5,c6,c7,c8,c9,c10⟩:=hc;obtain⟨i,zv,hi,hsz,hz,uw,z2⟩:=gm (by omega) c5;obtain⟨a',c',rfl,hr'⟩:=Gl (h:=h) (z:=B.z) hx hm (Nat.min_le_left m len) c2 c1;obtain⟨news,v6⟩:=jI (P:=P) hI c4 hr' c1;obtain⟨a,c'',rfl,mK,hN,hn',hv⟩:=hd.gq;have hb:=hI.blk s0 i0 B hg;obtain⟨oQ,oR⟩:=hv (by rw [hb.hlen];exact c8);rw [hb.hz]at oQ;subst oQ;have hu:=cH hs;obtain⟨w',g1,g2,g3⟩:=hI.afA (P:=P) hg c7 v6 (off:=off) c9 (by rw [c2];omega);have hrun:=v6.run;rw [c2]at hrun g3;refine⟨.int .i64 (min m len:Nat),w',?_,g2,g3,.pure (.int _ _)⟩;have afB:i.size=B.z:=(by rw [hsz,c3]);have hf:(Builtin.firstCells i.size (min m len) (.slice a' m c')).run P w=.ok news.toArray w:=by rw [afB];cases a'<;>exact hrun
   have e0:m.min len=min m len:=rfl;simp [Builtin.copy_,run_underlying hu,sizeOf,typeInfo,hi,Builtin.lenOf,e0,hf,g1,goInt]
 ·exact hc.elim
theorem CX{T ty:TypeId}{x:V}{u:Value}(hI:Inv F w A X h)(hx:RV w A X x u)(hc:(sC P T x h).c) :
  ∃r w',(Builtin.clear_ #[T] ty #[u]).run P w=.ok r w'/\bC w A w' A/\Inv F w' A X (sC P T x h).h/\RV w' A X (sC P T x h).v r:=by
 unfold sC at hc ⊢;split at hc
 ·rename_i e s i n off len cap hs;cases hg:aL h s i with
  | none=>simp [hg,bad]at hc
  | some B=>
   simp only [hg]at hc ⊢;obtain⟨c1,c2,c3,c4,c5,c6,c7,c8,c9⟩:=hc;obtain⟨ti,zv,hi,hsz,hz,uw,z2⟩:=gm (by omega) c3;obtain⟨a,c,rfl,mK,hN,hn',hv⟩:=hx.gq;have hb:=hI.blk s i B hg;obtain⟨oQ,oR⟩:=hv (by rw [hb.hlen];exact c6);rw [hb.hz]at oQ;subst oQ;have hu:=cH hs;have z3:zv.cells.size=B.z:=(by rw [z2,c1]);have aL:∀e1 j,e1<len->j<zv.cells.size->(Builtin.zeroCells zv.cells len).toList[e1 * B.z+j]?=zv.cells[j]?:=by
    intro e1 j h1 h2;have v0:e1 * B.z+j<len * B.z:=by have:(e1+1) * B.z<=len * B.z:=Nat.mul_le_mul_right _ h1;rw [Nat.add_mul]at this;omega
    simp only [Builtin.zeroCells,Array.getElem?_toList];rw [<-z3]at v0 ⊢;have hm:(e1 * zv.cells.size+j) % zv.cells.size=j:=(by rw [Nat.mul_comm,Nat.mul_add_mod,Nat.mod_eq_of_lt h2]);simp [v0,hm,h2]
   have hlen:(Builtin.zeroCells zv.cells len).toList.length=len * B.z:=(by simp [Builtin.zeroCells,z3]);have hok:=fm (w:=w) (A:=A) (X:=X) (zs:=zv.cells) (by rw [<-uw];exact c4);rw [<-uw]at hok;have hn:Nws w A X B.z (List.replicate len (zc P e)) true (Builtin.zeroCells zv.cells len).toList:=by
    refine⟨fun row hr=>by rw [List.eq_of_mem_replicate hr,c3,c1],by rw [hlen,List.length_replicate],fun e1 j row c he hj=>?_,fun u WV=>?_⟩
    ·have v0:e1<len:=(by have:=(List.getElem?_eq_some_iff.1 he).1;simpa using this);have v4:row=zc P e:=List.eq_of_mem_replicate (List.mem_of_getElem? he);subst v4;have vy:j<zv.cells.size:=(by have:=(List.getElem?_eq_some_iff.1 hj).1;omega);obtain⟨u,k1,k2,k3⟩:=hok.2 j c hj;refine⟨u,by rw [aL e1 j v0 vy];exact k1,k3,fun _=>?_⟩;rw [uw]at hj;obtain⟨x,hx,hp⟩:=qq (w:=w) (A:=A) hj;have hx':zv.cells[j]?=some x:=(by simpa using hx);rw [k1]at hx';cases hx';exact hp
    ·obtain⟨k,hk,yk⟩:=List.getElem_of_mem WV;rw [hlen]at hk;have e1:k / B.z<len:=Nat.div_lt_of_lt_mul (by rw [Nat.mul_comm];exact hk);have e2:k % B.z<zv.cells.size:=(by rw [z3];exact Nat.mod_lt _ c2);have:=aL (k / B.z) (k % B.z) e1 e2;rw [Nat.div_add_mod' k B.z,List.getElem?_eq_getElem (by rw [hlen];exact hk),yk,Array.getElem?_eq_getElem e2]at this;have yl:(k % B.z)<(zc P e).length:=(by rw [c3,<-z2];exact e2);obtain⟨u',k1,k2,_⟩:=hok.2 (k % B.z) _ (List.getElem?_eq_getElem yl);rw [Array.getElem?_eq_getElem e2]at k1;cases k1;cases this;exact k2
   obtain⟨w',g1,g2,g3⟩:=hI.Md (P:=P) hg c5 hn (off:=off) c7 (by rw [List.length_replicate];exact c8);rw [List.length_replicate,Bool.and_true]at g3;refine⟨.tuple #[],w',?_,g2,g3,.pure (.dB [] #[] rfl (by simp))⟩;obtain⟨m,rfl⟩:∃m,len=m+1:=⟨len - 1,by omega⟩
   simp [Builtin.clear_,run_underlying hu,zeroValue,typeInfo,hi,hz,g1]
 ·exact hc.elim
end
end Go.Sx
end
section
namespace Go.Sx
open Go.RowKit
variable [aO]
def Jm(P:Program)(f:FuncId)(S:aB):Prop:=
 ∀d:S.dom,S.pre d->∀(w:World) (A:Nat->Prop) (vals:Array Value),GOK w A->(∀b,A b->b<w.heap.size)->vals.size=(S.enc d).length->
  (∀(i:Nat) (c:V),(S.enc d)[i]?=some c->PV w A c (vals.getD i gC))->
  Calls P f vals w fun e w'=>∃v,e=.returned v/\Below w.heap.size w w'/\PV w' A (S.res d) v
def jY(X:Refs)(h:Hp)(b:Nat):Prop:=∃s i B,aL h s i=some B/\B.fz=false/\(X.D s i).real/\(X.D s i).b=b
def Jn(P:Program)(f:FuncId)(S:bB):Prop:=
 ∀(args:List V) (h:Hp),(S.go args h).c->∀(w:World) (A:Nat->Prop) (X:Refs) (vals:Array Value),Inv ⟨w,A,X,jY X h⟩ w A X h->vals.size=args.length->
  (∀(i:Nat) (c:V),args[i]?=some c->RV w A X c (vals.getD i gC))->
  Calls P f vals w fun e w'=>∃v A' X',e=.returned v/\Inv ⟨w,A,X,jY X h⟩ w' A' X' (S.go args h).h/\RV w' A' X' (S.go args h).v v
def Fr.stop(F:Fr)(l:Nat)(r:Loop):Fr:={F with w0:=F.w0.putObj l (.loop r)}
def abI(l:Nat)(B:World->(Nat->Prop)->Refs->Prop):Prop:=
 (∀w A X,B w A X->∃r,w.heap[l]?=some (.loop r))/\
 ∀w A X h w' A' X' h',B w A X->Inv ⟨w,A,X,jY X h⟩ w A X h->Inv ⟨w,A,X,jY X h⟩ w' A' X' h'->B w' A' X'
def Ends(F:Fr)(l:Nat)(Pr:Loop->Prop)(w':World)(A':Nat->Prop)(X':Refs)(h':Hp):Prop:=
 (h' YS).ah=[]/\(((h' YS).fl=false/\Inv F w' A' X' h')\/((h' YS).fl=true/\∃r:Loop,Pr r/\Inv (F.stop l r) w' A' X' h'))
def akX(P:Program)(l:Nat)(Pr:Loop->Prop)(Y:bB)(B:World->(Nat->Prop)->Refs->Prop):Prop:=
 ∀(args:List V) (h:Hp),(Y.go args h).c->(h YS).ah=[]/\(h YS).fl=false/\∀(w:World) (A:Nat->Prop) (X:Refs) (vals:Array Value),B w A X->Inv ⟨w,A,X,jY X h⟩ w A X h->vals.size=args.length->
  (∀(i:Nat) (c:V),args[i]?=some c->RV w A X c (vals.getD i gC))->
  ∃fn tmps assign body,(Instr.yield l vals).run P w=.ok (.round l fn tmps assign body) w/\RoundIn Fence.wide 0 P l fn tmps assign body w fun e w'=>
   ∃v A' X',e=.returned v/\Ends ⟨w,A,X,jY X h⟩ l Pr w' A' X' (Y.go args h).h/\RV w' A' X' (Y.go args h).v v
def HZ(P:Program)(f:FuncId)(S:Nat->bB->bB):Prop:=
 ∀(l:Nat) (Y:bB) (Pr:Loop->Prop) (B:World->(Nat->Prop)->Refs->Prop),abI l B->akX P l Pr Y B->∀(args:List V) (h:Hp),((S l Y).go args h).c->(h YS).ah=[]->(h YS).fl=false->
  ∀(w:World) (A:Nat->Prop) (X:Refs) (vals:Array Value),B w A X->Inv ⟨w,A,X,jY X h⟩ w A X h->vals.size=args.length->
  (∀(i:Nat) (c:V),args[i]?=some c->RV w A X c (vals.getD i gC))->
  Calls P f vals w fun e w'=>∃v A' X',e=.returned v/\Ends ⟨w,A,X,jY X h⟩ l Pr w' A' X' ((S l Y).go args h).h/\RV w' A' X' ((S l Y).go args h).v v
structure dM (P:Program) (f:FuncId) (S:Spec):Prop where
 call:∀(args:Array Value) (w:World),(callFunc f args).run P w=.ok (.enter f args) w
 pure:∀S',S=.pure S'->Jm P f S'
 heap:∀S',S=.heap S'->Jn P f S'
 iter:∀S',S=.iter S'->HZ P f S'
def nZ(E:Env):Prop:=∀f S,E.fn f=some S->dM E.P f S
section
variable {F:Fr} {w:World} {A:Nat->Prop} {X:Refs} {h:Hp} {P:Program}
theorem Inv.below(hI:Inv F w A X h){w':World}(hb:Below w.heap.size w w'):bC w A w' A/\Inv F w' A X h:=by
 have hL:bC w A w' A:=⟨hb.size,fun b v0 hA=>⟨hb.block b v0,hA⟩⟩
 refine⟨hL,{gl:=hI.gl.mono hL,oV:=?_,iE:=hI.iE,ep:=hI.ep,os:=hb.os.trans hI.os,tape:=hb.tape.trans hI.tape,output:=hb.output.trans hI.output,size:=Nat.le_trans hI.size hb.size,same:=?_,xle:=hI.xle,nb:=hI.nb,blk:=?_,inj:=hI.inj}⟩
 ·intro b hA;have:=hI.oV b hA;have:=hb.size;omega
 ·intro b v0 hM;have:=hI.size;rw [hb.block b (by omega)];exact hI.same b v0 hM
 intro s i B hB;have ho:=hI.blk s i B hB;refine {hN:=ho.hN,hz:=ho.hz,hlen:=ho.hlen,rows:=ho.rows,mem:=?_};rcases ho.mem with hm|⟨arr,cap,h1,h2,h3,h4,h5,h6,h7,h8⟩
 ·exact .inl hm
 ·have v0:(X.D s i).b<w.heap.size:=(Array.getElem?_eq_some_iff.1 h1).1;refine .inr ⟨arr,cap,by rw [hb.block _ v0];exact h1,h2,h3,h4,h5,?_,h7,h8⟩;intro e j row c he hj;obtain⟨u,g1,g2,g3,g4⟩:=h6 e j row c he hj;exact⟨u,g1,g2,g3.mono hL (fH.refl X),fun cZ=>(g4 cZ).mono hL⟩
def uk(A:Nat->Prop)(X:Refs)(h:Hp)(b:Nat):Prop:=A b/\¬ jY X h b
omit [aO]in
theorem PV.afC{x:V}{u:Value}(hx:PV w A x u):PV w (uk A X h) x u:=hx.mono ⟨Nat.le_refl _,fun _ _ hA=>⟨rfl,fun hl=>hA hl.1⟩⟩
omit [aO]in
theorem zL{g:V->Prop × V}:∀(cs:List V) (j:Nat) (c:V),(cL g cs).1->(cL g cs).2[j]?=some c->∃x,cs[j]?=some x/\(g x).2=c/\(g x).1/\x.leaf=true
 | [],j,c,_,h=>by simp [cL]at h
 | x::cs,0,c,hc,h=>by simp [cL]at h;exact⟨x,rfl,h,hc.1.2,hc.1.1⟩
 | x::cs,j+1,c,hc,h=>by simp only [cL,List.getElem?_cons_succ]at h ⊢;exact zL cs j c hc.2 h
omit [aO]in
theorem zM(g:V->Prop × V):∀(cs:List V),(cL g cs).2.length=cs.length
 | []=>rfl
 | x::cs=>by simp [cL,zM g cs]
omit [aO]in
theorem sF{g:V->Prop × V}:∀(rs:List (List V)) (e:Nat) (row:List V),(dc g rs).1->(dc g rs).2[e]?=some row->∃x,rs[e]?=some x/\(cL g x).2=row/\(cL g x).1
 | [],e,row,_,h=>by simp [dc]at h
 | x::rs,0,row,hc,h=>by simp [dc]at h;exact⟨x,rfl,h,hc.1⟩
 | x::rs,e+1,row,hc,h=>by simp only [dc,List.getElem?_cons_succ]at h ⊢;exact sF rs e row hc.2 h
omit [aO]in
theorem zN(g:V->Prop × V):∀(rs:List (List V)),(dc g rs).2.length=rs.length
 | []=>rfl
 | x::rs=>by simp [dc,zN g rs]
omit [aO]in
theorem vC(g:V->Prop × V)(B:dZ):(bV g B).2.length=B.els.length:=by
 unfold bV;split
 ·rfl
 ·exact zN g _
omit [aO]in
theorem Ot{g:V->Prop × V}{B:dZ}(h:B.els=[]):(bV g B).2=[]:=List.eq_nil_of_length_eq_zero (by rw [vC,h];rfl)
theorem sG{A':Nat->Prop}{g:V->Prop × V}{G:V->Prop}(hm:∀x u,PV w A x u->PV w A' x u)(vr:∀x u,RV w A X x u->(g x).1->x.leaf=true->G x->PV w A' (g x).2 u)(hI:Inv F w A X h){s i:Nat}{B:dZ}(hg:aL h s i=some B)(hc:(bV g B).1){arr:Array Value}{cap:Nat}(h1:w.heap[(X.D s i).b]?=some (.cells arr B.ty (0,0)))(h2:(X.D s i).v=.slice (some ⟨(X.D s i).b,(X.D s i).o,none⟩) B.els.length cap)
  (h6:∀e j row c,B.els[e]?=some row->row[j]?=some c->∃u,arr[(X.D s i).o+e * B.z+j]?=some u/\u.oneCell'=true/\RV w A X c u/\(B.cl=true->PV w A c u)) (hG:B.cl=false->∀row∈B.els,∀c∈row,G c) (ym:¬ A' (X.D s i).b) :
  (X.D s i).b<w.heap.size/\¬ A' (X.D s i).b/\(∀row∈(bV g B).2,row.length=B.z)/\
   (∀e j row c,(bV g B).2[e]?=some row->row[j]?=some c->w.cell? ⟨(X.D s i).b,(X.D s i).o+e * B.z+j,none⟩=some ((w.cell? ⟨(X.D s i).b,(X.D s i).o+e * B.z+j,none⟩).getD gC)/\((w.cell? ⟨(X.D s i).b,(X.D s i).o+e * B.z+j,none⟩).getD gC).oneCell'=true)/\
   (∀e j row c,(bV g B).2[e]?=some row->row[j]?=some c->PV w (A') c ((w.cell? ⟨(X.D s i).b,(X.D s i).o+e * B.z+j,none⟩).getD gC)):=by
 have hb:=hI.blk s i B hg;have v5:∀e j row c,(bV g B).2[e]?=some row->row[j]?=some c->∃u,w.cell? ⟨(X.D s i).b,(X.D s i).o+e * B.z+j,none⟩=some u/\u.oneCell'=true/\PV w (A') c u:=by
  intro e j row c he hj;unfold bV at he hc;split at he
  ·rename_i cZ;obtain⟨u,k1,k2,k3,k4⟩:=h6 e j row c he hj;exact⟨u,by simp [World.cell?,h1,k1],k2,hm _ _ (k4 cZ)⟩
  ·rename_i cZ;rw [cZ]at hc;obtain⟨CS,e1,e2,e3⟩:=sF _ _ _ hc he;subst e2;obtain⟨c0,f1,f2,f3,f4⟩:=zL _ _ _ e3 hj;subst f2;obtain⟨u,k1,k2,k3,k4⟩:=h6 e j CS c0 e1 f1;exact⟨u,by simp [World.cell?,h1,k1],k2,vr c0 u k3 f3 f4 (hG (by simpa using cZ) CS (List.mem_of_getElem? e1) c0 (List.mem_of_getElem? f1))⟩
 refine⟨(Array.getElem?_eq_some_iff.1 h1).1,ym,fun row v4=>?_,fun e j row c he hj=>?_,fun e j row c he hj=>?_⟩
 ·unfold bV at v4 hc;split at v4
  ·exact hb.rows row v4
  ·rename_i cZ;rw [cZ]at hc;obtain⟨e,he⟩:=List.getElem?_of_mem v4;obtain⟨CS,e1,e2,e3⟩:=sF _ _ _ hc he;rw [<-e2,zM];exact hb.rows CS (List.mem_of_getElem? e1)
 ·obtain⟨u,k1,k2,k3⟩:=v5 e j row c he hj;rw [k1];exact⟨rfl,k2⟩
 ·obtain⟨u,k1,k2,k3⟩:=v5 e j row c he hj;rw [k1];exact k3
omit [aO]in
theorem iK{x:V}(h:x.leaf=true):¬ (∃cs,x=.agg cs)/\¬ (∃cs,x=.dB cs)/\¬ (∃f c cs,x=.fn f (c::cs)):=
 ⟨by rintro⟨cs,rfl⟩;simp [V.leaf]at h,by rintro⟨cs,rfl⟩;simp [V.leaf]at h,by rintro⟨f,c,cs,rfl⟩;simp [V.leaf]at h⟩
theorem mz{A':Nat->Prop}{g:V->Prop × V}{G:V->Prop}(hm:∀x u,PV w A x u->PV w A' x u)(vr:∀x u,RV w A X x u->(g x).1->x.leaf=true->G x->PV w A' (g x).2 u)(hI:Inv F w A X h){x:V}{u:Value}(hr:RV w A X x u)
  (lC:∀s i B,x.at?=some (s,i)->aL h s i=some B->((X.D s i).real->(B.fz=true->¬ A (X.D s i).b)->¬ A' (X.D s i).b)/\(B.cl=false->∀row∈B.els,∀c∈row,G c))
  (en:¬ (∃cs,x=.agg cs)/\¬ (∃cs,x=.dB cs)/\¬ (∃f c cs,x=.fn f (c::cs))) {y:Prop × V}
  (hy:y=match x with
   | .bw s i n=>(match aL h s i with
    | some B=>(n=B.els.length/\(bV g B).1,.sl B.z (bV g B).2)
    | none=>(False,.top))
   | .gY s i n off len cap=>(match aL h s i with
    | some B=>(n=B.els.length/\off+len<=B.els.length/\(bV g B).1/\len<=cap,.sl B.z (((bV g B).2.drop off).take len))
    | none=>(False,.top))
   | .bG s i n e j=>(match aL h s i with
    | some B=>(n=B.els.length/\(bV g B).1/\B.els≠[],.ip B.z (bV g B).2 e j)
    | none=>(False,.top))
   | v=>(True,v)) (hc:y.1):PV w (A') y.2 u:=by
 subst hy;cases x<;>simp only at hc ⊢
 case agg cs=>exact absurd ⟨cs,rfl⟩ en.1
 case dB cs=>exact absurd ⟨cs,rfl⟩ en.2.1
 case fn f cs=>
  cases cs with
  | nil=>exact hm _ _ (PV.j6 hr rfl)
  | cons c cs=>exact absurd ⟨f,c,cs,rfl⟩ en.2.2
 case bw s i n=>
  cases hg:aL h s i with
  | none=>simp [hg]at hc
  | some B=>
   simp only [hg]at hc ⊢;obtain⟨hn,cZ⟩:=hc;obtain⟨a,c,rfl,hN,hn',hv⟩:=hr.gp;have hb:=hI.blk s i B hg;have fJ:=hv (by rw [hb.hlen];exact hn);rcases hb.mem with⟨h1,h2⟩|⟨arr,cap,h1,h2,h3,h4,h5,h6,h7,h8⟩
   ·rw [h1]at fJ;injection fJ with e1 e2 e3;subst e1 e2;rw [Ot h2];exact .xV _ _ _
   ·rw [h2]at fJ;injection fJ with e1 e2 e3;subst e1 e2;obtain⟨g1,g2,g3,g4,g5⟩:=sG hm vr hI hg cZ h1 h2 h6 (lC s i B rfl hg).2 ((lC s i B rfl hg).1 (by unfold Hd.real;rw [h2];simp) h7);have Aa:=vC g B;have:=PV.sl (w:=w) (A:=A') B.z (bV g B).2 (X.D s i).b (X.D s i).o c _ (by omega) g1 g2 g3 g4 g5;rw [Aa]at this;exact this
 case bG s i n e j=>
  cases hg:aL h s i with
  | none=>simp [hg]at hc
  | some B=>
   simp only [hg]at hc ⊢;obtain⟨hn,cZ,vb⟩:=hc;obtain⟨a,rfl,hN,hn',hv⟩:=hr.iZ;have hb:=hI.blk s i B hg;have fJ:=hv (by rw [hb.hlen];exact hn);rw [hb.hz]at fJ;subst fJ;rcases hb.mem with⟨_,h2⟩|⟨arr,cap,h1,h2,h3,h4,h5,h6,h7,h8⟩
   ·exact absurd h2 vb
   ·obtain⟨g1,g2,g3,g4,g5⟩:=sG hm vr hI hg cZ h1 h2 h6 (lC s i B rfl hg).2 ((lC s i B rfl hg).1 (by unfold Hd.real;rw [h2];simp) h7);have:=PV.ip (w:=w) (A:=A') B.z (bV g B).2 e j _ (X.D s i).o _ g1 g2 g3 g4 g5;exact this
 case gY s i n off len cap=>
  cases hg:aL h s i with
  | none=>simp [hg]at hc
  | some B=>
   simp only [hg]at hc ⊢;obtain⟨hn,hl,cZ,kM⟩:=hc;obtain⟨a,c',rfl,mK,hN,hn',hv⟩:=hr.gq;have hb:=hI.blk s i B hg;have fJ:=(hv (by rw [hb.hlen];exact hn)).1;rw [hb.hz]at fJ;subst fJ;have Aa:=vC g B;have hlen:(((bV g B).2.drop off).take len).length=len:=(by simp;omega);by_cases h0:len=0
   ·have:((bV g B).2.drop off).take len=[]:=List.eq_nil_of_length_eq_zero (by omega);rw [this,h0];exact .xV _ _ _
   rcases hb.mem with⟨_,h2⟩|⟨arr,cap',h1,h2,h3,h4,h5,h6,h7,h8⟩
   ·rw [h2]at hl;simp at hl;omega
   ·obtain⟨g1,g2,g3,g4,g5⟩:=sG hm vr hI hg cZ h1 h2 h6 (lC s i B rfl hg).2 ((lC s i B rfl hg).1 (by unfold Hd.real;rw [h2];simp) h7);have get:∀(e:Nat) (row:List V),(((bV g B).2.drop off).take len)[e]?=some row->(bV g B).2[off+e]?=some row:=by intro e row he;have v0:e<len:=(by have:=(List.getElem?_eq_some_iff.1 he).1;omega);rw [List.getElem?_take_of_lt v0,List.getElem?_drop]at he;exact he
    have:=PV.sl (w:=w) (A:=A') B.z (((bV g B).2.drop off).take len) (X.D s i).b ((X.D s i).o+off * B.z) c' (fun e j=>(w.cell? ⟨(X.D s i).b,(X.D s i).o+(off+e) * B.z+j,none⟩).getD gC) (by omega) g1 g2 (fun row hr=>g3 row (List.mem_of_mem_drop (List.mem_of_mem_take hr)))
     (fun e j row c he hj=>by have:=g4 _ j row c (get e row he) hj;rw [show(X.D s i).o+off * B.z+e * B.z+j=(X.D s i).o+(off+e) * B.z+j by rw [Nat.add_mul];omega];exact this)
     (fun e j row c he hj=>g5 _ j row c (get e row he) hj)
    rw [hlen]at this;exact this
 all_goals exact hm _ _ (PV.j6 hr rfl)
omit [aO]in
theorem Me{x:V}:∀s i B,x.at?=some (s,i)->aL h s i=some B->((X.D s i).real->(B.fz=true->¬ A (X.D s i).b)->¬ uk A X h (X.D s i).b)/\(B.cl=false->∀row∈B.els,∀c∈row,True):=by
 intro s i B _ hg;refine⟨fun hr h7=>?_,fun _ _ _ _ _=>trivial⟩;rintro⟨ha,yn⟩;cases hfz:B.fz with
 | true=>exact h7 hfz ha
 | false=>exact yn ⟨s,i,B,hg,hfz,hr,rfl⟩
theorem wq(hI:Inv F w A X h):∀(f:Nat) (x:V) (u:Value),RV w A X x u->(ak f h x).1->¬ (∃cs,x=.agg cs)/\¬ (∃cs,x=.dB cs)/\¬ (∃f c cs,x=.fn f (c::cs))->PV w (uk A X h) (ak f h x).2 u
 | 0,x,u,hr,hc,hs=>by
  refine mz (G:=fun _=>True) (g:=fun _=>(False,.top)) (fun x u=>PV.afC) (fun x u _ hf=>hf.elim) hI hr (Me (h:=h)) hs (y:=ak 0 h x) ?_ hc;cases x<;>simp only [ak]
  all_goals
   cases hg:aL h _ _ with
   | none=>rfl
   | some B=>
    simp only [bV];cases cZ:B.cl with
    | true=>simp
    | false=>
     simp only [ak,hg,cZ]at hc;simp at hc
 | f+1,x,u,hr,hc,hs=>by refine mz (G:=fun _=>True) (g:=ak f h) (fun x u=>PV.afC) (fun x u hx hf hl _=>wq hI f x u hx hf (iK hl)) hI hr (Me (h:=h)) hs (y:=ak (f+1) h x) ?_ hc;cases x<;>simp only [ak];all_goals (cases aL h _ _<;>rfl)
omit [aO]in
theorem qe{g:V->Prop}:∀{cs:List V},F3 g cs->∀c∈cs,g c
 | [],_,c,hc=>by simp at hc
 | x::cs,h,c,hc=>by
  rcases List.mem_cons.1 hc with rfl|hc
  ·exact h.1
  ·exact qe h.2 c hc
omit [aO]in
theorem Gm{g:V->Prop}:∀{rs:List (List V)},ZT g rs->∀r∈rs,∀c∈r,g c
 | [],_,r,hr=>by simp at hr
 | x::rs,h,r,hr=>by
  rcases List.mem_cons.1 hr with rfl|hr
  ·exact qe h.1
  ·exact Gm h.2 r hr
theorem nh(hI:Inv F w A X h):∀(f:Nat) (x:V) (u:Value),RV w A X x u->(ak f h x).1->Wz f h x->¬ (∃cs,x=.agg cs)/\¬ (∃cs,x=.dB cs)/\¬ (∃f c cs,x=.fn f (c::cs))->PV w A (ak f h x).2 u
 | 0,x,u,hr,hc,hz,hs=>by
  refine mz (G:=fun _=>True) (g:=fun _=>(False,.top)) (fun _ _ h=>h) (fun x u _ hf=>hf.elim) hI hr (fun s i B ha hg=>by simp only [Wz,ha,hg]at hz;exact⟨fun _ h7=>h7 hz,fun _ _ _ _ _=>trivial⟩) hs (y:=ak 0 h x) ?_ hc
  cases x<;>simp only [ak]
  all_goals
   cases hg:aL h _ _ with
   | none=>rfl
   | some B=>
    simp only [bV];cases cZ:B.cl with
    | true=>simp
    | false=>
     simp only [ak,hg,cZ]at hc;simp at hc
 | f+1,x,u,hr,hc,hz,hs=>by
  refine mz (G:=Wz f h) (g:=ak f h) (fun _ _ h=>h) (fun x u hx hf hl hG=>nh hI f x u hx hf hG (iK hl)) hI hr (fun s i B ha hg=>by simp only [Wz,ha,hg]at hz;refine⟨fun _ h7=>h7 hz.1,fun cZ row v4 c hc=>?_⟩;exact Gm (hz.2.resolve_left (by simp [cZ])) row v4 c hc) hs (y:=ak (f+1) h x) ?_ hc
  cases x<;>simp only [ak];all_goals (cases aL h _ _<;>rfl)
theorem qf(hI:Inv F w A X h){x:V}{u:Value}(hr:RV w A X x u)(hc:(av h x).1)(en:¬ (∃cs,x=.agg cs)/\¬ (∃cs,x=.dB cs)/\¬ (∃f c cs,x=.fn f (c::cs))):PV w (uk A X h) (av h x).2 u:=
 wq hI 3 x u hr hc en
omit [aO]in
theorem lQ(h:Hp):∀(cs:List V) (i:Nat) (c:V),(dF h cs).2[i]?=some c->∃x,cs[i]?=some x/\(av h x).2=c
 | [],i,c,hc=>by simp [dF]at hc
 | x::cs,0,c,hc=>by simp [dF]at hc;exact⟨x,rfl,hc⟩
 | x::cs,i+1,c,hc=>by simp only [dF,List.getElem?_cons_succ]at hc ⊢;exact lQ h cs i c hc
omit [aO]in
theorem lR(h:Hp):∀(cs:List V),(dF h cs).2.length=cs.length
 | []=>rfl
 | x::cs=>by simp [dF,lR h cs]
omit [aO]in
theorem j8(h:Hp):∀(cs:List V),(dF h cs).1->∀x∈cs,(av h x).1
 | [],_,x,hx=>by simp at hx
 | y::cs,hc,x,hx=>by
  rcases List.mem_cons.1 hx with rfl|hx
  ·exact hc.1
  ·exact j8 h cs hc.2 x hx
omit [aO]in
theorem qL(h:Hp):∀(cs:List V) (i:Nat) (c:V),(ag3 h cs).2[i]?=some c->∃x,cs[i]?=some x/\(kg h x).2=c
 | [],i,c,hc=>by simp [ag3]at hc
 | x::cs,0,c,hc=>by simp [ag3]at hc;exact⟨x,rfl,hc⟩
 | x::cs,i+1,c,hc=>by simp only [ag3,List.getElem?_cons_succ]at hc ⊢;exact qL h cs i c hc
omit [aO]in
theorem BW(h:Hp):∀(cs:List V),(ag3 h cs).2.length=cs.length
 | []=>rfl
 | x::cs=>by simp [ag3,BW h cs]
omit [aO]in
theorem sH(h:Hp):∀(cs:List V),(ag3 h cs).1->∀x∈cs,(kg h x).1
 | [],_,x,hx=>by simp at hx
 | y::cs,hc,x,hx=>by
  rcases List.mem_cons.1 hx with rfl|hx
  ·exact hc.1
  ·exact sH h cs hc.2 x hx
theorem sI(hI:Inv F w A X h){x:V}{u:Value}(hr:RV w A X x u)(hc:(kg h x).1)(en:x.tW=true):PV w (uk A X h) (kg h x).2 u:=by
 unfold V.tW at en;cases x with
 | agg cs=>
  obtain⟨us,rfl,hl,hcs⟩:=hr.mb;simp only [kg]at hc ⊢;simp only [List.all_eq_true]at en;refine .agg _ us (by rw [hl,lR]) fun i c hi=>?_;obtain⟨x,hx,rfl⟩:=lQ h cs i c hi;exact qf hI (hcs i x hx) (j8 h cs hc x (List.mem_of_getElem? hx)) (iK (en x (List.mem_of_getElem? hx)))
 | fn f cs=>
  obtain⟨us,rfl,hl,hcs⟩:=hr.nN;simp only [kg]at hc ⊢;simp only [List.all_eq_true]at en;refine .fn f _ us (by rw [hl,lR]) fun i c hi=>?_;obtain⟨x,hx,rfl⟩:=lQ h cs i c hi;exact qf hI (hcs i x hx) (j8 h cs hc x (List.mem_of_getElem? hx)) (iK (en x (List.mem_of_getElem? hx)))
 | dB cs=>simp at en
 | _=>exact qf hI hr hc ⟨(by rintro⟨cs,hh⟩;cases hh),(by rintro⟨cs,hh⟩;cases hh),(by rintro⟨f,c,cs,hh⟩;cases hh)⟩
theorem Ou(hI:Inv F w A X h){x:V}{u:Value}(hr:RV w A X x u)(hc:(kg h x).1)(hz:fzA h x)(en:x.tW=true):PV w A (kg h x).2 u:=by
 unfold V.tW at en;cases x with
 | agg cs=>
  obtain⟨us,rfl,hl,hcs⟩:=hr.mb;simp only [kg]at hc ⊢;simp only [fzA]at hz;simp only [List.all_eq_true]at en;refine .agg _ us (by rw [hl,lR]) fun i c hi=>?_;obtain⟨x,hx,rfl⟩:=lQ h cs i c hi;exact nh hI 3 x _ (hcs i x hx) (j8 h cs hc x (List.mem_of_getElem? hx)) (qe hz x (List.mem_of_getElem? hx)) (iK (en x (List.mem_of_getElem? hx)))
 | fn f cs=>
  obtain⟨us,rfl,hl,hcs⟩:=hr.nN;simp only [kg]at hc ⊢;simp only [fzA]at hz;simp only [List.all_eq_true]at en;refine .fn f _ us (by rw [hl,lR]) fun i c hi=>?_;obtain⟨x,hx,rfl⟩:=lQ h cs i c hi;exact nh hI 3 x _ (hcs i x hx) (j8 h cs hc x (List.mem_of_getElem? hx)) (qe hz x (List.mem_of_getElem? hx)) (iK (en x (List.mem_of_getElem? hx)))
 | dB cs=>simp at en
 | _=>exact nh hI 3 _ _ hr hc hz ⟨(by rintro⟨cs,hh⟩;cases hh),(by rintro⟨cs,hh⟩;cases hh),(by rintro⟨f,c,cs,hh⟩;cases hh)⟩
omit [aO]in
theorem zO{x y:V}{u:Value}(hs:aAx x y)(hr:PV w A x u):PV w A y u:=by
 unfold aAx at hs;split at hs
 ·exact .top u
 ·cases hr;exact .xV _ _ _
 ·cases hr;exact .xV _ _ _
 ·subst hs;exact hr
omit [aO]in
theorem qg:∀(xs ys:List V),pW xs ys->xs.length=ys.length/\∀(i:Nat) (y:V),ys[i]?=some y->∃x,xs[i]?=some x/\aAx x y
 | [],[],_=>⟨rfl,fun i y hy=>by simp at hy⟩
 | [],_::_,hs=>hs.elim
 | _::_,[],hs=>hs.elim
 | x::xs,y::ys,hs=>by
  obtain⟨h1,h2⟩:=qg xs ys hs.2;refine⟨by simp [h1],fun i y' hy=>?_⟩;cases i with
  | zero=>simp at hy;subst hy;exact⟨x,rfl,hs.1⟩
  | succ i=>simpa using h2 i y' (by simpa using hy)
omit [aO]in
theorem lS{x y:V}{u:Value}(hs:F2 x y)(hr:PV w A x u):PV w A y u:=by
 unfold F2 at hs;split at hs
 ·rename_i xs ys;obtain⟨hl,hg⟩:=qg xs ys hs;cases hr with
  | agg _ us hl' hc=>
   refine .agg ys us (by omega) fun i c hi=>?_;obtain⟨x,hx,v9⟩:=hg i c hi;exact zO v9 (hc i x hx)
 ·exact zO hs hr
omit [aO]in
theorem mA:∀(xs ys:List V),BQ xs ys->xs.length=ys.length/\∀(i:Nat) (y:V),ys[i]?=some y->∃x,xs[i]?=some x/\F2 x y
 | [],[],_=>⟨rfl,fun i y hy=>by simp at hy⟩
 | [],_::_,hs=>hs.elim
 | _::_,[],hs=>hs.elim
 | x::xs,y::ys,hs=>by
  obtain⟨h1,h2⟩:=mA xs ys hs.2;refine⟨by simp [h1],fun i y' hy=>?_⟩;cases i with
  | zero=>simp at hy;subst hy;exact⟨x,rfl,hs.1⟩
  | succ i=>simpa using h2 i y' (by simpa using hy)
omit [aO]in
theorem Ov{x y:V}{u:Value}(hs:sub x y)(hr:PV w A x u):PV w A y u:=by
 unfold sub at hs;split at hs
 ·rename_i xs ys;obtain⟨hl,hg⟩:=mA xs ys hs;cases hr with
  | dB _ us hl' hc=>
   refine .dB ys us (by omega) fun i c hi=>?_;obtain⟨x,hx,v9⟩:=hg i c hi;exact lS v9 (hc i x hx)
 ·exact lS hs hr
omit [aO]in
theorem asl{x y:V}{u:Value}(hs:aAx x y)(hr:RV w A X x u):RV w A X y u:=by
 unfold aAx at hs;split at hs
 ·exact .pure (.top u)
 ·rw [hr.dY];exact .pure (.xV _ _ _)
 ·obtain⟨a,rfl⟩:=hr.tY;exact .pure (.xV _ _ _)
 ·subst hs;exact hr
omit [aO]in
theorem wz{x y:V}{u:Value}(hs:F2 x y)(hr:RV w A X x u):RV w A X y u:=by
 unfold F2 at hs;split at hs
 ·rename_i xs ys;obtain⟨hl,hg⟩:=qg xs ys hs;obtain⟨us,rfl,hl',hc⟩:=hr.mb;refine .agg ys us (by omega) fun i c hi=>?_;obtain⟨x,hx,v9⟩:=hg i c hi;exact asl v9 (hc i x hx)
 ·exact asl hs hr
omit [aO]in
theorem sJ{x y:V}{u:Value}(hs:sub x y)(hr:RV w A X x u):RV w A X y u:=by
 unfold sub at hs;split at hs
 ·rename_i xs ys;obtain⟨hl,hg⟩:=mA xs ys hs;obtain⟨us,rfl,hl',hc⟩:=hr.KQ;refine .dB ys us (by omega) fun i c hi=>?_;obtain⟨x,hx,v9⟩:=hg i c hi;exact wz v9 (hc i x hx)
 ·exact wz hs hr
omit [aO]in
theorem vD{A':Nat->Prop}{x:V}{u:Value}(hs:x.BP=true)(hr:PV w A x u):PV w A' x u:=by
 cases hr<;>simp [V.BP]at hs
 ·exact .int _ _
 ·exact .bool _
 ·exact .nil
 ·exact .lg
 ·exact .oN
omit [aO]in
theorem VA{A':Nat->Prop}{x:V}{u:Value}(hs:x.Oa=true)(hr:PV w A x u):PV w A' x u:=by
 cases x with
 | dB cs=>
  simp only [V.Oa,List.all_eq_true]at hs;cases hr with
  | dB _ us hl hc=>exact .dB cs us hl fun i c hi=>vD (hs c (List.mem_of_getElem? hi)) (hc i c hi)
 | agg cs=>
  simp only [V.Oa,List.all_eq_true]at hs;cases hr with
  | agg _ us hl hc=>exact .agg cs us hl fun i c hi=>vD (hs c (List.mem_of_getElem? hi)) (hc i c hi)
 | _=>exact vD hs hr
omit [aO]in
theorem AO(h:Hp){x:V}(hx:x.bZ=true):av h x=(True,x):=by cases x<;>simp_all [V.bZ,av,ak]
omit [aO]in
theorem lT(h:Hp):∀(cs:List V),cs.all V.bZ=true->(dF h cs).2=cs
 | [],_=>rfl
 | x::cs,hc=>by
  simp only [List.all_cons,Bool.and_eq_true]at hc
  simp [dF,AO h hc.1,lT h cs hc.2]
omit [aO]in
theorem DL(h:Hp){x:V}(hx:x.cD=true):(kg h x).2=x:=by
 cases x with
 | agg cs=>simp only [kg,lT h cs hx]
 | fn f cs=>simp only [kg,lT h cs hx]
 | dB cs=>rfl
 | _=>simp_all [V.cD,V.bZ,kg,av,ak]
theorem Nc{g:FuncId}{S:aB}(hS:Jm P g S)(hI:Inv F w A X h){args:List V}{vals:Array Value}(hsz:vals.size=args.length)(vd:∀(i:Nat) (c:V),args[i]?=some c->RV w A X c (vals.getD i gC))
  (en:args.all V.tW=true) (hc:(ag3 h args).1) (v9:BQ (ag3 h args).2 (S.enc (S.dec (ag3 h args).2))) (vx:S.pre (S.dec (ag3 h args).2)) (akY:args.all V.cD=true\/(S.res (S.dec (ag3 h args).2)).Oa=true\/F3 (fzA h) args) :
  Calls P g vals w fun e w'=>∃v,e=.returned v/\bC w A w' A/\Inv F w' A X h/\RV w' A X (S.res (S.dec (ag3 h args).2)) v:=by
 obtain⟨hl,aL⟩:=mA _ _ v9;rw [BW]at hl;simp only [List.all_eq_true]at en;by_cases vV:args.all V.cD=true
 ·simp only [List.all_eq_true]at vV;refine(hS _ vx w A vals hI.gl hI.oV (by omega) fun i c hi=>?_).mono fun e w' ⟨v,he,hb,hv⟩=>?_
  ·obtain⟨x,hx,hs⟩:=aL i c hi;obtain⟨y,hy,rfl⟩:=qL h args i x hx;have hm:=List.mem_of_getElem? hy;rw [DL h (vV y hm)]at hs;exact lS hs (.lq (vd i y hy) (vV y hm))
  ·obtain⟨hL,fB⟩:=hI.below hb;exact⟨v,he,hL,fB,.pure hv⟩
 ·rcases akY.resolve_left vV with yr|hz
  case inr=>
   refine(hS _ vx w A vals hI.gl hI.oV (by omega) fun i c hi=>?_).mono fun e w' ⟨v,he,hb,hv⟩=>?_
   ·obtain⟨x,hx,hs⟩:=aL i c hi;obtain⟨y,hy,rfl⟩:=qL h args i x hx;have hm:=List.mem_of_getElem? hy;exact lS hs (Ou hI (vd i y hy) (sH h args hc y hm) (qe hz y hm) (en y hm))
   ·obtain⟨hL,fB⟩:=hI.below hb;exact⟨v,he,hL,fB,.pure hv⟩
  refine(hS _ vx w (uk A X h) vals (fun g v hg=>(hI.gl g v hg).afC) (fun b hb=>hI.oV b hb.1) (by omega) fun i c hi=>?_).mono fun e w' ⟨v,he,hb,hv⟩=>?_
  ·obtain⟨x,hx,hs⟩:=aL i c hi;obtain⟨y,hy,rfl⟩:=qL h args i x hx;have hm:=List.mem_of_getElem? hy;exact lS hs (sI hI (vd i y hy) (sH h args hc y hm) (en y hm))
  ·obtain⟨hL,fB⟩:=hI.below hb;exact⟨v,he,hL,fB,.pure (VA yr hv)⟩
theorem Inv.back(hI:Inv F w A X h){w':World}{A':Nat->Prop}{X':Refs}{h':Hp}(fB:Inv ⟨w,A,X,jY X h⟩ w' A' X' h'):bC w A w' A'/\fH X X'/\Inv F w' A' X' h':=by
 have hown:∀b,jY X h b->A b/\(F.M b\/F.w0.heap.size<=b):=by
  rintro b ⟨s,i,B,hg,hfz,fE,rfl⟩;rcases(hI.blk s i B hg).mem with hm|⟨arr,cap,_,_,_,_,_,_,_,h8⟩
  ·exact absurd hm.1 fE
  ·exact h8 hfz
 refine⟨⟨fB.size,fun b v0 hA=>⟨fB.same b v0 fun hM=>hA (hown b hM).1,fun hh=>hA (fB.iE b v0 hh)⟩⟩,fB.xle,{gl:=fB.gl,oV:=fB.oV,iE:=?_,ep:=?_,os:=fB.os.trans hI.os,tape:=fB.tape.trans hI.tape,output:=fB.output.trans hI.output,size:=Nat.le_trans hI.size fB.size,same:=?_,xle:=hI.xle.trans fB.xle,nb:=fB.nb,blk:=?_,inj:=fB.inj}⟩
 ·intro b v0 hA;have h1:=hI.size;exact hI.iE b v0 (fB.iE b (by show b<w.heap.size;omega) hA)
 ·intro b v0 z4 hM;have h1:=hI.size;exact fB.ep b (by show b<w.heap.size;omega) (hI.ep b v0 z4 hM) fun hh=>by rcases(hown b hh).2 with h2|h2;exact hM h2;omega
 ·intro b v0 hM;have h1:=hI.size;rw [fB.same b (by show b<w.heap.size;omega) fun hh=>by rcases(hown b hh).2 with h2|h2;exact hM h2;omega];exact hI.same b v0 hM
 ·intro s i B hB;have ho:=fB.blk s i B hB;refine {hN:=ho.hN,hz:=ho.hz,hlen:=ho.hlen,rows:=ho.rows,mem:=?_};rcases ho.mem with hm|⟨arr,cap,h1,h2,h3,h4,h5,h6,h7,h8⟩
  ·exact .inl hm
  ·refine .inr ⟨arr,cap,h1,h2,h3,h4,h5,h6,h7,fun hf=>⟨(h8 hf).1,?_⟩⟩;rcases(h8 hf).2 with h9|h9
   ·exact(hown _ h9).2
   ·right;have:=hI.size;have h9':w.heap.size<=(X'.D s i).b:=h9;omega
end
section freeze
variable {F:Fr} {w:World} {A:Nat->Prop} {X:Refs} {h:Hp}
theorem Inv.Mf(hI:Inv F w A X h)(T:Nat->Nat->Bool){h':Hp}(hg:∀s i,aL h' s i=(aL h s i).map fun B=>if T s i then {B with fz:=true}else B)(hn:∀s,hnext h' s=hnext h s):∃A',bC w A w A'/\Inv F w A' X h':=by
 let A':Nat->Prop:=fun b=>A b/\¬ ∃s i B,aL h s i=some B/\T s i=true/\(X.D s i).real/\(X.D s i).b=b
 have hL:bC w A w A':=⟨Nat.le_refl _,fun b _ hA=>⟨rfl,fun hh=>hA hh.1⟩⟩
 have get:∀{s i B'},aL h' s i=some B'->∃B,aL h s i=some B/\B'=if T s i then {B with fz:=true}else B:=by
  intro s i B' mg;rw [hg]at mg;cases hB:aL h s i with
  | none=>rw [hB]at mg;cases mg
  | some B=>rw [hB]at mg;exact⟨B,rfl,(Option.some.inj mg).symm⟩
 refine⟨A',hL,{gl:=hI.gl.mono hL,oV:=fun b hA=>hI.oV b hA.1,iE:=fun b v0 hA=>hI.iE b v0 hA.1,ep:=?_,os:=hI.os,tape:=hI.tape,output:=hI.output,size:=hI.size,same:=hI.same,xle:=hI.xle,nb:=fun s'=>by rw [hn];exact hI.nb s',blk:=?_,inj:=?_}⟩
 ·intro b v0 z4 hM;have zt:=hI.ep b v0 z4 hM;refine⟨zt,?_⟩;rintro⟨s,i,B,hB,hT,fE,rfl⟩;rcases(hI.blk s i B hB).mem with⟨k1,_⟩|⟨arr,cap,m1,m2,m3,m4,m5,m6,m7,m8⟩
  ·exact fE k1
  ·cases hfz:B.fz with
   | true=>exact m7 hfz zt
   | false => rcases (m8 hfz).2 with h | h
              · exact hM h
              · omega
 ·intro s i B' mg;obtain⟨B,hB,rfl⟩:=get mg;have ho:=hI.blk s i B hB;have e1:(if T s i then {B with fz:=true}else B).z=B.z:=by split<;>rfl
  have e2:(if T s i then {B with fz:=true}else B).els=B.els:=by split<;>rfl
  have e3:(if T s i then {B with fz:=true}else B).ty=B.ty:=by split<;>rfl
  have e4:(if T s i then {B with fz:=true}else B).cl=B.cl:=by split<;>rfl
  refine {hN:=ho.hN,hz:=by rw [e1];exact ho.hz,hlen:=by rw [e2];exact ho.hlen,rows:=by rw [e1,e2];exact ho.rows,mem:=?_};rw [e1,e2,e3,e4];rcases ho.mem with hm|⟨arr,cap,k1,k2,k3,k4,k5,k6,k7,k8⟩
  ·exact .inl hm
  ·have hr:(X.D s i).real:=(by unfold Hd.real;rw [k2];simp);refine .inr ⟨arr,cap,k1,k2,k3,k4,k5,?_,?_,?_⟩
   ·intro e j row c he hj;obtain⟨u,g1,g2,g3,g4⟩:=k6 e j row c he hj;exact⟨u,g1,g2,g3.mono hL (fH.refl X),fun cZ=>(g4 cZ).mono hL⟩
   ·intro hf hh;cases hT:T s i with
    | true=>exact hh.2 ⟨s,i,B,hB,hT,hr,rfl⟩
    | false=>rw [hT]at hf;exact k7 hf hh.1
   ·intro hf;cases hT:T s i with
    | true=>rw [hT]at hf;cases hf
    | false=>
     rw [hT]at hf;refine⟨⟨(k8 hf).1,?_⟩,(k8 hf).2⟩;rintro⟨s1,i1,B1,rj,zE,kR,ez⟩;obtain⟨rfl,rfl⟩:=hI.inj s1 i1 B1 s i B rj hB kR hr ez;rw [hT]at zE;cases zE
 ·intro s1 i1 B1 s2 i2 B2 h1 h2 kR jP Aj;obtain⟨C1,c1,_⟩:=get h1;obtain⟨C2,c2,_⟩:=get h2;exact hI.inj s1 i1 C1 s2 i2 C2 c1 c2 kR jP Aj
theorem Inv.freeze(hI:Inv F w A X h){s i:Nat}{B:dZ}(hB:aL h s i=some B):∃A',bC w A w A'/\Inv F w A' X (bE h s i {B with fz:=true}):=by
 refine hI.Mf (fun s' i'=>decide (s'=s/\i'=i)) (fun s' i'=>?_) (fun s'=>vo ..);by_cases v8:s'=s/\i'=i
 ·obtain⟨rfl,rfl⟩:=v8;rw [gH hB,hB];simp
 ·rw [eW h _ v8 (kS hB)];cases aL h s' i'<;>simp [v8]
theorem Inv.Mg(hI:Inv F w A X h)(s:Nat):∃A',bC w A w A'/\Inv F w A' X (zx h s):=by
 refine hI.Mf (fun s' _=>decide (s'=s)) (fun s' i'=>?_) (fun s'=>?_)
 ·unfold aL zx;by_cases hs:s'=s
  ·subst hs;simp only [if_true,decide_true,List.getElem?_map];split<;>rfl
  ·simp only [hs,if_false,decide_false];split
   ·rfl
   ·simp
 ·unfold hnext zx;by_cases hs:s'=s
  ·subst hs;simp
  ·simp [hs]
end freeze
theorem Inv.Gn{F:Fr}{w:World}{X:Refs}:∀(L:List Nat) {A:Nat->Prop} {h:Hp},Inv F w A X h->∃A',bC w A w A'/\Inv F w A' X (yp L h)
 | [],A,h,hI=>⟨A,bC.refl w A,hI⟩
 | s::r,A,h,hI=>by obtain⟨A1,h1,h2⟩:=hI.Mg s;obtain⟨A2,h3,h4⟩:=Inv.Gn r h2;exact⟨A2,h1.trans h3,h4⟩
theorem Inv.o6{F:Fr}{w:World}{X:Refs}{A:Nat->Prop}{h:Hp}(hI:Inv F w A X h)(E:Env)(d:Nat)(f:V):∃A',bC w A w A'/\Inv F w A' X (o6 E d f h):=by
 unfold Sx.o6;split
 ·split
  ·exact Inv.Gn _ hI
  ·exact⟨A,bC.refl w A,hI⟩
 ·exact⟨A,bC.refl w A,hI⟩
end Go.Sx
end
end
