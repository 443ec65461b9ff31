/- A part of a proof; no conditions. -/
import Derived.Test.YtfhdpblkdgmnfaaGreatDoorP02
import Derived.RangeFuncNested
import Derived.RangeFuncLeaves
set_option linter.unusedSimpArgs false
set_option linter.unusedVariables false
set_option linter.unusedSectionVars false
set_option maxRecDepth 100000
set_option maxHeartbeats 8000000
noncomputable section
section
namespace Go.Sx
open Go.RowKit
variable [Gls]
section
variable {F:Fr} {w:World} {A:Nat→Prop} {X:Refs} {h:Hp} {P:Program}
def OptR:Option Int→Option Value→Prop
 | none,none=>True
 | some n,some u=>∃k,u=.int k n
 | _,_=>False
omit [Gls]in
theorem run_sliceBounds {s:Bool} {len cap:Nat} {lo hi:Option Int} {ul uh:Option Value} (hlo:OptR lo ul) (hhi:OptR hi uh) (h1:0≤lo.getD 0) (h2:lo.getD 0≤hi.getD len) (h3:hi.getD len≤cap) :
  (Instr.sliceBounds s len cap ul uh none).run P w=.ok ((lo.getD 0).toNat,(hi.getD len).toNat,cap) w:=by
 unfold Instr.sliceBounds
 have hb:∀(k:IntKind) (i:Int) (y:Nat) (c:BoundsCode),0≤i→i≤y→(Instr.sliceBound (.int k i) y c).run P w=.ok i.toNat w:=by
  intro k i y c g1 g2
  simp [Instr.sliceBound,asIntOf,g1,g2]
 cases lo with
 | none=>
  cases ul with
  | some=>exact hlo.elim
  | none=>
   cases hi with
   | none=>
    cases uh with
    | some=>exact hhi.elim
    | none=>simp
   | some n=>
    cases uh with
    | none=>exact hhi.elim
    | some u=>
     obtain⟨k,rfl⟩:=hhi
     simp only [Option.getD_some,Option.getD_none]at h1 h2 h3
     simp [hb k n cap _ h2 h3]
 | some m=>
  cases ul with
  | none=>exact hlo.elim
  | some u=>
   obtain⟨k,rfl⟩:=hlo
   cases hi with
   | none=>
    cases uh with
    | some=>exact hhi.elim
    | none=>
     simp only [Option.getD_some,Option.getD_none]at h1 h2 h3
     simp [hb k m len _ h1 h2]
   | some n=>
    cases uh with
    | none=>exact hhi.elim
    | some u=>
     obtain⟨k',rfl⟩:=hhi
     simp only [Option.getD_some]at h1 h2 h3
     simp [hb k' n cap _ (by omega) h3,hb k m n.toNat _ h1 (by omega)]
omit [Gls]in
theorem sliceAt_slice {T e:TypeId} (hu:P.underlying T=some (.slice e)) (h0:0<P.cellsOf e) {a:Option Addr} {len cap:Nat} {lo hi:Option Int} {ul uh:Option Value} (hlo:OptR lo ul) (hhi:OptR hi uh)
  (h1:0≤lo.getD 0) (h2:lo.getD 0≤hi.getD len) (h3:hi.getD len≤cap) :
  (Instr.sliceAt T (.slice a len cap) ul uh none).run P w=.ok (.slice (if cap=(lo.getD 0).toNat then a else a.map (·.add ((lo.getD 0).toNat * P.cellsOf e))) ((hi.getD len).toNat - (lo.getD 0).toNat) (cap - (lo.getD 0).toNat)) w:=by
 have hb:=run_sliceBounds (P:=P) (w:=w) (s:=true) hlo hhi h1 h2 h3
 simp [Instr.sliceAt,Instr.slice,run_underlying hu,hb,run_sizeOf' h0]
omit [Gls]in
theorem sliceAt_slice3 {T e:TypeId} (hu:P.underlying T=some (.slice e)) (h0:0<P.cellsOf e) {a:Option Addr} {len cap:Nat} {lo:Option Int} {hi m:Int} {ul uh um:Option Value} (hlo:OptR lo ul) (hhi:OptR (some hi) uh) (hm:OptR (some m) um)
  (h1:0≤lo.getD 0) (h2:lo.getD 0≤hi) (h3:hi≤m) (h4:m≤cap):∃r,(Instr.sliceAt T (.slice a len cap) ul uh um).run P w=.ok r w:=by
 have hb:∀(k:IntKind) (i:Int) (y:Nat) (c:BoundsCode),0≤i→i≤y→(Instr.sliceBound (.int k i) y c).run P w=.ok i.toNat w:=by
  intro k i y c g1 g2
  simp [Instr.sliceBound,asIntOf,g1,g2]
 cases uh with
 | none=>exact hhi.elim
 | some uh=>
  cases um with
  | none=>exact hm.elim
  | some um=>
   obtain⟨k1,rfl⟩:=hhi
   obtain⟨k2,rfl⟩:=hm
   have hbb:∃l,(Instr.sliceBounds true len cap ul (some (.int k1 hi)) (some (.int k2 m))).run P w=.ok (l,hi.toNat,m.toNat) w:=by
    unfold Instr.sliceBounds
    cases lo with
    | none=>
     cases ul with
     | some=>exact hlo.elim
     | none=>
      simp only [Option.getD_none]at h1 h2
      exact⟨0,by simp [hb k2 m cap _ (by omega) h4,hb k1 hi m.toNat _ (by omega) (by omega)]⟩
    | some q=>
     cases ul with
     | none=>exact hlo.elim
     | some u=>
      obtain⟨k,rfl⟩:=hlo
      simp only [Option.getD_some]at h1 h2
      exact⟨q.toNat,by simp [hb k2 m cap _ (by omega) h4,hb k1 hi m.toNat _ (by omega) (by omega),hb k q hi.toNat _ h1 (by omega)]⟩
   obtain⟨l,hbb⟩:=hbb
   exact⟨.slice (if m.toNat=l then a else a.map (·.add (l * P.cellsOf e))) (hi.toNat - l) (m.toNat - l),by simp [Instr.sliceAt,Instr.slice,run_underlying hu,hbb,run_sizeOf' h0]⟩
omit [Gls]in
theorem sliceAt_array {T e:TypeId} {n:Nat} (hu:P.underlying T=some (.array n e)) (h0:0<P.cellsOf e) {a:Addr} {lo hi:Option Int} {ul uh:Option Value} (hlo:OptR lo ul) (hhi:OptR hi uh)
  (h1:0≤lo.getD 0) (h2:lo.getD 0≤hi.getD n) (h3:hi.getD n≤n) :
  (Instr.sliceAt T (.pointer (some a)) ul uh none).run P w=.ok (.slice (some (if n=(lo.getD 0).toNat then a else a.add ((lo.getD 0).toNat * P.cellsOf e))) ((hi.getD n).toNat - (lo.getD 0).toNat) (n - (lo.getD 0).toNat)) w:=by
 have hb:=run_sliceBounds (P:=P) (w:=w) (s:=false) hlo hhi h1 h2 h3
 simp [Instr.sliceAt,Instr.sureAddr,run_underlying hu,hb,run_sizeOf' h0]
omit [Gls]in
theorem PV.piece {z:Nat} {els:List (List V)} {b off cap:Nat} {us:Nat→Nat→Value} (hcap:els.length≤cap) (hb:b<w.heap.size) (hA:¬ A b) (hz:∀row∈els,row.length=z)
  (hc:∀e j row c,els[e]?=some row→row[j]?=some c→w.cell? ⟨b,off+e * z+j,none⟩=some (us e j)∧(us e j).oneCell'=true)
  (hv:∀e j row c,els[e]?=some row→row[j]?=some c→PV w A c (us e j)) {l m:Nat} (hl:l≤m) (hm:m≤els.length) :
  PV w A (.sl z ((els.drop l).take (m - l))) (.slice (if cap=l then some ⟨b,off,none⟩else some ((⟨b,off,none⟩:Addr).add (l * z))) (m - l) (cap - l)):=by
 have hlen:((els.drop l).take (m - l)).length=m - l:=by simp; omega
 by_cases he:m - l=0
 ·have h0:(els.drop l).take (m - l)=[]:=List.eq_nil_of_length_eq_zero (by omega)
  rw [h0,he]; exact .sl0 z _ _
 ·rw [if_neg (by omega),addr_add]
  have:=PV.sl (w:=w) (A:=A) z ((els.drop l).take (m - l)) b (off+l * z) (cap - l) (fun e j=>us (l+e) j) (by omega) hb hA (fun row hr=>hz row (List.mem_of_mem_drop (List.mem_of_mem_take hr)))
   (fun e j row c he hj=>by
    have hlt:e<m - l:=by have:=(List.getElem?_eq_some_iff.1 he).1; omega
    rw [List.getElem?_take_of_lt hlt,List.getElem?_drop]at he
    have:=hc _ j row c he hj
    rw [Nat.add_mul]at this
    rw [show off+l * z+e * z+j=off+(l * z+e * z)+j by omega]; exact this)
   (fun e j row c he hj=>by
    have hlt:e<m - l:=by have:=(List.getElem?_eq_some_iff.1 he).1; omega
    rw [List.getElem?_take_of_lt hlt,List.getElem?_drop]at he
    exact hv _ j row c he hj)
  rw [hlen]at this; exact this
omit [Gls]in
theorem PV.rowSlice {row:List V} {b off n:Nat} {us:Nat→Value} (hb:b<w.heap.size) (hA:¬ A b) (hn:n≤row.length)
  (hc:∀(k:Nat) (c:V),row[k]?=some c→w.cell? ⟨b,off+k,none⟩=some (us k)∧(us k).oneCell'=true∧PV w A c (us k)) {l m:Nat} (hl:l≤m) (hm:m≤n) :
  PV w A (.sl 1 (((row.drop l).take (m - l)).map fun c=>[c])) (.slice (some (if n=l then ⟨b,off,none⟩else (⟨b,off,none⟩:Addr).add (l * 1))) (m - l) (n - l)):=by
 have hlen:(((row.drop l).take (m - l)).map fun c=>[c]).length=m - l:=by simp; omega
 by_cases he:m - l=0
 ·have h0:((row.drop l).take (m - l)).map (fun c=>[c])=[]:=List.eq_nil_of_length_eq_zero (by rw [hlen]; exact he)
  rw [h0,he]; exact .sl0 1 _ _
 ·rw [if_neg (by omega),addr_add]
  have get:∀(e j:Nat) (r:List V) (c:V),(((row.drop l).take (m - l)).map fun c=>[c])[e]?=some r→r[j]?=some c→j=0∧row[l+e]?=some c:=by
   intro e j r c h1 h2
   rw [List.getElem?_map]at h1
   cases hx:((row.drop l).take (m - l))[e]? with
   | none=>simp [hx]at h1
   | some x=>
    simp [hx]at h1; subst h1
    have hlt:e<m - l:=by have:=(List.getElem?_eq_some_iff.1 hx).1; rw [List.length_take]at this; omega
    rw [List.getElem?_take_of_lt hlt,List.getElem?_drop]at hx
    cases j with
    | zero=>simp at h2; subst h2; exact⟨rfl,hx⟩
    | succ j=>simp at h2
  have:=PV.sl (w:=w) (A:=A) 1 (((row.drop l).take (m - l)).map fun c=>[c]) b (off+l * 1) (n - l) (fun e _=>us (l+e)) (by omega) hb hA (fun r hr=>by obtain⟨c,_,rfl⟩:=List.mem_map.1 hr; rfl)
   (fun e j r c he hj=>by
    obtain⟨rfl,hg⟩:=get e j r c he hj
    obtain⟨g1,g2,_⟩:=hc _ c hg
    rw [show off+l * 1+e * 1+0=off+(l+e) by omega]; exact⟨g1,g2⟩)
   (fun e j r c he hj=>by
    obtain⟨rfl,hg⟩:=get e j r c he hj
    exact(hc _ c hg).2.2)
  rw [hlen]at this; exact this
theorem sliceV_sound {T:TypeId} {x:V} {u:Value} {lo hi mx:Option (Option Int)} {ul uh um:Option Value} (hI:Inv F w A X h) (hr:RV w A X x u)
  (hlo:∀r,lo=some r→OptR r ul) (hhi:∀r,hi=some r→OptR r uh) (hmx:∀r,mx=some r→OptR r um) (hc:(sliceV P T x lo hi mx h).1) :
  ∃r,(Instr.sliceAt T u ul uh um).run P w=.ok r w∧RV w A X (sliceV P T x lo hi mx h).2 r:=by
 unfold sliceV at hc ⊢
 split at hc
 ·rename_i lo hi
  have hlo:=hlo lo rfl
  have hhi:=hhi hi rfl
  have hmx:=hmx none rfl
  cases um with
  | some=>exact hmx.elim
  | none=>
   simp only at hc ⊢
   split at hc
   ·-- nil
    obtain⟨h1,h2,h3,h4⟩:=hc
    cases hs:slEl P T with
    | none=>exact absurd hs h1
    | some e=>
     rw [hr.nil_inv]
     have hz:0<P.cellsOf e:=by simpa [hs]using h4
     have:=sliceAt_slice (P:=P) (w:=w) (slEl_some hs) hz (a:=none) (len:=0) (cap:=0) hlo hhi (by omega) (by simpa [h2]using (by rw [show((0:Nat):Int)=0 from rfl,h3]; exact Int.le_refl 0:(0:Int)≤hi.getD ((0:Nat):Int))) (by rw [show((0:Nat):Int)=0 from rfl,h3]; exact Int.le_refl 0)
     refine⟨.slice none 0 0,?_,.pure .nil⟩
     rw [this,h2,show hi.getD ((0:Nat):Int)=0 from h3]
     simp
   ·-- sl
    rename_i z els
    obtain⟨h1,h2,h3,h4,h5,h6⟩:=hc
    cases hs:slEl P T with
    | none=>exact absurd hs h1
    | some e=>
     have hz:P.cellsOf e=z:=by simpa [hs]using h2
     have h':=hr.sl_inv
     cases h' with
     | sl0 _ a cap=>
      simp only [List.length_nil]at h4 h5
      have:=sliceAt_slice (P:=P) (w:=w) (slEl_some hs) (by rw [hz]; exact h6) (a:=a) (len:=0) (cap:=cap) hlo hhi h3 h4 (by omega)
      refine⟨_,this,.pure ?_⟩
      simp only [List.drop_nil,List.take_nil,List.length_nil]
      have e0:(hi.getD ((0:Nat):Int)).toNat - (lo.getD 0).toNat=0:=by omega
      rw [e0]; exact .sl0 _ _ _
     | sl _ _ b off cap us hcap hb hA hz' hcell hv=>
      have:=sliceAt_slice (P:=P) (w:=w) (slEl_some hs) (by rw [hz]; exact h6) (a:=some ⟨b,off,none⟩) (len:=els.length) (cap:=cap) hlo hhi h3 h4 (by omega)
      refine⟨_,this,.pure ?_⟩
      have hp:=PV.piece (w:=w) (A:=A) hcap hb hA hz' hcell hv (l:=(lo.getD 0).toNat) (m:=(hi.getD els.length).toNat) (by omega) (by omega)
      rw [hz]
      simpa using hp
   ·-- ip
    rename_i z els e j
    cases ha:arEl P T with
    | none=>simp [ha]at hc
    | some ne=>
     obtain⟨n,el⟩:=ne
     simp only [ha]at hc ⊢
     obtain⟨h1,h2,h3,h4,h5,h6⟩:=hc
     have h':=hr.ip_inv
     cases h' with
     | ip _ _ _ _ b off us hb hA hz hcell hv=>
      have hrun:=sliceAt_array (P:=P) (w:=w) (arEl_some ha) (by omega) (a:=⟨b,off+e * z+j,none⟩) hlo hhi h2 h3 h4
      have hrow:(els.getD e []).length=z:=hz _ (List.mem_of_getElem? (getD_get h5))
      refine⟨_,hrun,.pure ?_⟩
      rw [h1]
      exact PV.rowSlice (w:=w) (A:=A) (row:=(els.getD e []).drop j) (n:=n) (us:=fun k=>us e (j+k)) hb hA (by rw [List.length_drop]; omega) (fun k c hk=>by
       rw [List.getElem?_drop]at hk
       have g:=hcell e _ _ c (getD_get h5) hk
       rw [show off+e * z+j+k=off+e * z+(j+k) by omega]
       exact⟨g.1,g.2,hv e _ _ c (getD_get h5) hk⟩) (l:=(lo.getD 0).toNat) (m:=(hi.getD n).toNat) (by omega) (by omega)
   ·-- bptr
    rename_i s i n0 e j
    cases ha:arEl P T with
    | none=>simp [ha]at hc
    | some ne=>
     obtain⟨n,el⟩:=ne
     cases hg:hget h s i with
     | none=>simp [ha,hg]at hc
     | some B=>
      simp only [ha,hg]at hc ⊢
      obtain⟨hfz,hcl,hn0,h1,h2,h3,h4,h5,h6⟩:=hc
      obtain⟨a,rfl,_,_,had⟩:=hr.bptr_inv
      have hb:=hI.blk s i B hg
      have ha':=had (by rw [hb.hlen]; exact hn0)
      rw [hb.hz]at ha'
      subst ha'
      have hrun:=sliceAt_array (P:=P) (w:=w) (arEl_some ha) (by omega) (a:=⟨(X.D s i).b,(X.D s i).o+e * B.z+j,none⟩) hlo hhi h2 h3 h4
      have hrow:(B.els.getD e []).length=B.z:=hb.rows _ (List.mem_of_getElem? (getD_get h5))
      refine⟨_,hrun,.pure ?_⟩
      rw [h1]
      have hmem:(X.D s i).b<w.heap.size∧¬ A (X.D s i).b:=by
       rcases hb.mem with⟨_,hh⟩|⟨arr,cap,g1,g2,g3,g4,g5,g6,g7,g8⟩
       ·rw [hh]at h5; simp at h5
       ·exact⟨(Array.getElem?_eq_some_iff.1 g1).1,g7 hfz⟩
      exact PV.rowSlice (w:=w) (A:=A) (row:=(B.els.getD e []).drop j) (n:=n) (us:=fun k=>(w.cell? ⟨(X.D s i).b,(X.D s i).o+e * B.z+(j+k),none⟩).getD und) hmem.1 hmem.2 (by rw [List.length_drop]; omega) (fun k c hk=>by
       rw [List.getElem?_drop]at hk
       obtain⟨u,g1,g2,g3,g4⟩:=hI.cells hg h5 _ c hk
       simp only [g1,Option.getD_some]
       rw [show(X.D s i).o+e * B.z+j+k=(X.D s i).o+e * B.z+(j+k) by omega]
       exact⟨g1,g2,g4 hcl⟩) (l:=(lo.getD 0).toNat) (m:=(hi.getD n).toNat) (by omega) (by omega)
   ·-- bsl
    rename_i s i n
    cases hg:hget h s i with
    | none=>simp [hg]at hc
    | some B=>
     simp only [hg]at hc ⊢
     cases hfz:B.fz with
     | false=>
      rw [hfz]at hc
      simp only at hc ⊢
      obtain⟨h1,h2,h3,h4,h5,h6,h7,hz0⟩:=hc
      cases hs:slEl P T with
      | none=>exact absurd hs h1
      | some e=>
       have hz:P.cellsOf e=B.z:=by simpa [hs]using h2
       obtain⟨a,c,rfl,hN,hn',hv⟩:=hr.bsl_inv
       have hb:=hI.blk s i B hg
       have hv':=hv (by rw [hb.hlen]; exact h3)
       rcases hb.mem with⟨_,hh⟩|⟨arr,cap,g1,g2,g3,g4,g5,g6,g7,g8⟩
       ·rw [hh]at h3; simp at h3; omega
       ·rw [g2]at hv'
        injection hv' with e1 e2 e3
        subst e1 e3
        have hrun:=sliceAt_slice (P:=P) (w:=w) (slEl_some hs) (by rw [hz]; exact hz0) (a:=some ⟨(X.D s i).b,(X.D s i).o,none⟩) (len:=n) (cap:=c) hlo hhi h4 h5 (by omega)
        refine⟨_,hrun,?_⟩
        rw [if_neg (by omega)]
        refine .osl s i n (lo.getD 0).toNat _ _ (Addr.add ⟨(X.D s i).b,(X.D s i).o,none⟩ ((lo.getD 0).toNat * P.cellsOf e)) _ (by omega) hN hn' fun _=>⟨by rw [addr_add,hb.hz,hz],?_⟩
        have:(X.D s i).cap=c:=by unfold Hd.cap; rw [g2]
        omega
     | true=>
     rw [hfz]at hc
     simp only at hc ⊢
     obtain⟨h1,h2,h3,hn0,h4,h5,h6,hcl,hz0⟩:=hc
     cases hs:slEl P T with
     | none=>exact absurd hs h1
     | some e=>
      have hz:P.cellsOf e=B.z:=by simpa [hs]using h2
      obtain⟨a,c,rfl,hN,hn',hv⟩:=hr.bsl_inv
      have hb:=hI.blk s i B hg
      have hv':=hv (by rw [hb.hlen]; exact h3)
      rcases hb.mem with⟨_,hh⟩|⟨arr,cap,g1,g2,g3,g4,g5,g6,g7,g8⟩
      ·rw [hh]at h3; simp at h3; omega
      ·rw [g2]at hv'
       injection hv' with e1 e2 e3
       subst e1 e3
       have hrun:=sliceAt_slice (P:=P) (w:=w) (slEl_some hs) (by rw [hz]; exact hz0) (a:=some ⟨(X.D s i).b,(X.D s i).o,none⟩) (len:=n) (cap:=c) hlo hhi h4 h5 (by omega)
       refine⟨_,hrun,.pure ?_⟩
       have hp:=PV.piece (w:=w) (A:=A) (off:=(X.D s i).o) (us:=fun e j=>(w.cell? ⟨(X.D s i).b,(X.D s i).o+e * B.z+j,none⟩).getD und) g3 (Array.getElem?_eq_some_iff.1 g1).1 (g7 hfz) hb.rows (fun e j row c he hj=>by
        obtain⟨u,k1,k2,k3,k4⟩:=g6 e j row c he hj
        have hcell:w.cell? ⟨(X.D s i).b,(X.D s i).o+e * B.z+j,none⟩=some u:=by simp [World.cell?,g1,k1]
        simp only [hcell,Option.getD_some]; exact⟨trivial,k2⟩) (fun e j row c he hj=>by
        obtain⟨u,k1,k2,k3,k4⟩:=g6 e j row c he hj
        have hcell:w.cell? ⟨(X.D s i).b,(X.D s i).o+e * B.z+j,none⟩=some u:=by simp [World.cell?,g1,k1]
        simp only [hcell,Option.getD_some]; exact k4 hcl) (l:=(lo.getD 0).toNat) (m:=(hi.getD n).toNat) (by omega) (by omega)
       rw [hz]
       simpa using hp
   ·-- osl
    rename_i s i n off len cap
    obtain⟨⟨h1,h2,h3,h4,h5,h6⟩,h7⟩:=hc
    cases hs:slEl P T with
    | none=>exact absurd hs h1
    | some e=>
     have hz:0<P.cellsOf e:=by simpa [hs]using h2
     obtain⟨a,c,rfl,hcc,hN,hn',hv⟩:=hr.osl_inv
     have hrun:=sliceAt_slice (P:=P) (w:=w) (slEl_some hs) hz (a:=some a) (len:=len) (cap:=c) hlo hhi h3 h4 (by omega)
     generalize hl:(lo.getD 0).toNat=l at *
     rcases h7 with h7|⟨h7,h8⟩
     ·have hl0:l=0:=by omega
      subst hl0
      refine⟨_,hrun,?_⟩
      have ha:(if c=0 then some a else (some a).map (·.add (0 * P.cellsOf e)))=some a:=by
       split
       ·rfl
       ·simp [Addr.add]
      rw [ha]
      exact .osl s i n off _ cap a _ hcc hN hn' hv
     ·refine⟨_,hrun,?_⟩
      have hcl:¬ c=l:=by omega
      rw [if_neg hcl]
      cases hg:hget h s i with
      | none=>rw [hg]at h8; exact h8.elim
      | some B=>
       rw [hg]at h8
       have hzB:P.cellsOf e=B.z:=by simpa [hs]using h8
       have hb:=hI.blk s i B hg
       refine .osl s i n (off+l) _ (cap - l) (a.add (l * P.cellsOf e)) _ (by omega) hN hn' fun hh=>?_
       obtain⟨v1,v2⟩:=hv hh
       refine⟨by rw [v1,addr_add,hb.hz,hzB,Nat.add_mul,Nat.add_assoc],by omega⟩
   ·exact hc.elim
 ·rename_i lo hi m
  have hlo:=hlo lo rfl
  have hhi:=hhi (some hi) rfl
  have hmx:=hmx (some m) rfl
  split at hc
  ·rename_i s i n
   cases hg:hget h s i with
   | none=>simp [hg]at hc
   | some B=>
    simp only [hg]at hc ⊢
    obtain⟨h1,h2,h3,h4,h5,h6,h7⟩:=hc
    cases hs:slEl P T with
    | none=>exact absurd hs h1
    | some e=>
     have hz:0<P.cellsOf e:=by simpa [hs]using h2
     obtain⟨a,c,rfl,hN,hn',hv⟩:=hr.bsl_inv
     have hb:=hI.blk s i B hg
     have hv':=hv (by rw [hb.hlen]; exact h3)
     have hcap:n≤c:=by
      rcases hb.mem with⟨hh0,hh⟩|⟨arr,cap,g1,g2,g3,g4,g5,g6,g7,g8⟩
      ·rw [hh]at h3; simp at h3; omega
      ·rw [g2]at hv'
       injection hv' with e1 e2 e3
       omega
     obtain⟨r,hrun⟩:=sliceAt_slice3 (P:=P) (w:=w) (slEl_some hs) hz (a:=a) (len:=n) (cap:=c) hlo hhi hmx h4 h5 h6 (by omega)
     exact⟨r,hrun,.pure (.top _)⟩
  ·rename_i s i n off len cap
   obtain⟨h1,h2,h3,h4,h5,h6⟩:=hc
   cases hs:slEl P T with
   | none=>exact absurd hs h1
   | some e=>
    have hz:0<P.cellsOf e:=by simpa [hs]using h2
    obtain⟨a,c,rfl,hcc,hN,hn',hv⟩:=hr.osl_inv
    obtain⟨r,hrun⟩:=sliceAt_slice3 (P:=P) (w:=w) (slEl_some hs) hz (a:=some a) (len:=len) (cap:=c) hlo hhi hmx h3 h4 h5 (by omega)
    exact⟨r,hrun,.pure (.top _)⟩
  ·exact hc.elim
 ·exact hc.elim
omit [Gls]in
theorem run_append_zeros (P:Program) (t it ty e:TypeId) (k k':IntKind) (i:TypeInfo) (z:Value) (ht:P.underlying t=some (.slice e)) (hit:P.underlying it=some (.int k)) (hi:P.info? e=some i) (hz:i.zero=some z) (hi0:0<i.size)
  {m:Nat} (h0:0<m) (h63:(m:Int)≤9223372036854775807) (h48:m * i.bytes≤281474976710656) :
  (Builtin.append_ #[t,it] ty #[.slice none 0 0,.int k' m]).run P w =
   .ok (.slice (some ⟨w.heap.size,0,none⟩) m (grownCap w m 0 e)) (w.drew.alloc (.cells (Builtin.zeroCells z.cells m++Builtin.zeroCells z.cells (grownCap w m 0 e - m)) e)):=by
 have hn:¬ m=0:=by omega
 have hw:IntKind.wrap .i64 (m:Int)=m:=by rw [IntKind.wrap_i64]; omega
 have h63':¬ (9223372036854775807<(m:Int)):=by omega
 have h48':¬ (281474976710656<Builtin.nextslicecap m 0 * i.bytes):=by rw [nextslicecap_zero h0]; omega
 have h48'':¬ (281474976710656<(m:Int) * (i.bytes:Int)):=by
  have:((m * i.bytes:Nat):Int)=(m:Int) * (i.bytes:Int):=by simp
  omega
 have hnz:¬ (m * i.size=0):=Nat.ne_of_gt (Nat.mul_pos h0 hi0)
 have hw2:¬ (m:Int)<0:=by omega
 simp [Builtin.append_,run_underlying ht,run_underlying hit,sizeOf,typeInfo,zeroValue,hi,hz,Builtin.lenOf,hn,hw,h63',h48',h48'',Question.forced,run_firstCells_none,newRow,grownCap,asInt,asIntOf,hw2]
 intro hh; exact absurd hh hnz
theorem appendZ_sound {own:Bool} {key:Nat} {T T2 ty:TypeId} {s x:V} {us ux:Value} (hI:Inv F w A X h) (hs:RV w A X s us) (hx:RV w A X x ux) (hc:(sAppendZ P own key T T2 s x h).c) :
  ∃r w' A' X',(Builtin.append_ #[T,T2] ty #[us,ux]).run P w=.ok r w'∧Later w A w' A'∧Xle X X'∧Inv F w' A' X' (sAppendZ P own key T T2 s x h).h∧RV w' A' X' (sAppendZ P own key T T2 s x h).v r:=by
 unfold sAppendZ at hc ⊢
 split at hc
 ·rename_i e k k' m hsl hik
  have hu:=slEl_some hsl
  rw [hs.nil_inv,hx.int_inv]
  obtain⟨c0,c1,c3,c4,c5,c6,c7⟩:=hc
  obtain⟨i,zv,hi,hsz0,hz,hzc,hsz⟩:=zc_some c4 c3
  have hby:P.bytesOf e=i.bytes:=by simp [Program.bytesOf,hi]
  obtain⟨q,rfl⟩:=Int.eq_ofNat_of_zero_le (Int.le_of_lt c1)
  have hint:P.underlying T2=some (.int k):=by
   unfold intK at hik
   split at hik<;>simp_all
  have hqb:q * i.bytes≤140737488355328:=by
   rw [hby]at c6
   have:((q * i.bytes:Nat):Int)=(q:Int) * (i.bytes:Int):=by simp
   omega
  have hr:=run_append_zeros (w:=w) P T T2 ty e k k' i zv hu hint hi hz (by omega) (m:=q) (by omega) c7 (by omega)
  obtain⟨hLd,hId⟩:=hI.drew
  have hqm:q≤maxLen:=by simp only [maxLen]; omega
  have hcap:=grownCap_ge w q 0 e
  have hgm:=grownCap_le_maxLen w q 0 e hqm
  have hcells:∀(e1 j:Nat) (row:List V) (c:V),(List.replicate q (zc P e))[e1]?=some row→row[j]?=some c→∃u,(Builtin.zeroCells zv.cells q++Builtin.zeroCells zv.cells (grownCap w q 0 e - q))[e1 * P.cellsOf e+j]?=some u∧u.oneCell'=true∧RV w.drew A X c u∧(true=true→PV w.drew A c u):=by
   intro e1 j row c he hj
   have hlt:e1<q:=by have:=(List.getElem?_eq_some_iff.1 he).1; simpa using this
   have hrow:row=zc P e:=List.eq_of_mem_replicate (List.mem_of_getElem? he)
   subst hrow
   have hjl:j<zv.cells.size:=by have:=(List.getElem?_eq_some_iff.1 hj).1; omega
   have hin:e1 * zv.cells.size+j<(Builtin.zeroCells zv.cells q).size:=by rw [size_zeroCells]; exact idx_lt hlt hjl
   have hg:(Builtin.zeroCells zv.cells q++Builtin.zeroCells zv.cells (grownCap w q 0 e - q))[e1 * P.cellsOf e+j]?=zv.cells[j]?:=by
    rw [←hsz,Array.getElem?_append_left hin]; exact zrow_get hlt hjl
   rw [hg]
   have hok:=ofVal1_cells (w:=w.drew) (A:=A) (X:=X) (zs:=zv.cells) (by rw [←hzc]; exact c5)
   rw [←hzc]at hok
   obtain⟨u,k1,k2,k3⟩:=hok.2 j c hj
   refine⟨u,k1,k2,k3,fun _=>?_⟩
   rw [hzc]at hj
   obtain⟨x,hx,hp⟩:=ofVal1_pv (w:=w.drew) (A:=A) hj
   have hx':zv.cells[j]?=some x:=by simpa using hx
   rw [k1]at hx'; cases hx'; exact hp
  have hsize:(Builtin.zeroCells zv.cells q++Builtin.zeroCells zv.cells (grownCap w q 0 e - q)).size=grownCap w q 0 e * P.cellsOf e:=by
   rw [Array.size_append,size_zeroCells,size_zeroCells,hsz,←Nat.add_mul]; congr 1; omega
  have hI':=hId.alloc key {z:=P.cellsOf e,els:=List.replicate q (zc P e),ty:=e} _ (grownCap w q 0 e) rfl (by simp; exact hcap) hgm (fun row hr=>by rw [List.eq_of_mem_replicate hr]; exact c3) hsize hcells
  simp only [Int.toNat_natCast]
  refine⟨_,_,_,_,hr,hLd.trans (hId.later_alloc _),hId.xle_new key _ _,hI',?_⟩
  exact .osl _ _ _ _ _ _ _ _ hcap (by simp [refsNew]) (by simp [refsNew]) (fun _=>by simp [refsNew,Hd.cap])
 ·exact hc.elim
end
end Go.Sx
end
section
namespace Go.Sx
open Go.RowKit
variable [Gls]
section
variable {F:Fr} {w:World} {A:Nat→Prop} {X:Refs} {h:Hp} {P:Program}
theorem Inv.moveW (hI:Inv F w A X h) {s i:Nat} {B:Blk} (hB:hget h s i=some B) (hfz:B.fz=false) (key:Nat) {off k c:Nat} {a:Option Addr} (hwin:off+k≤B.els.length)
  (hu:(a=none∧k=0∧c=0)∨∃o',a=some ⟨(X.D s i).b,o',none⟩∧(X.D s i).real∧o'+c * B.z≤(X.D s i).o+(X.D s i).cap * B.z∧c≤(X.D s i).cap∧k≤c∧(k=0∨o'=(X.D s i).o+off * B.z)) :
  ∃X',Xle X X'∧Inv F w A X' (hpush (hcut h s i) key {B with els:=(B.els.drop off).take k})∧RV w A X' (.bsl key (hnext h key) k) (.slice a k c)∧(X'.D key (hnext h key)).v=.slice a k c:=by
 have hb:=hI.blk s i B hB
 have hlt:=hget_lt hB
 have hnk:hnext (hcut h s i) key=hnext h key:=hnext_cut hlt key
 have hlen:((B.els.drop off).take k).length=k:=by simp; omega
 obtain⟨d',hd1,hd2,hd3,hd4⟩:∃d':Hd,d'.z=B.z∧d'.len=k∧d'.v=.slice a k c∧
   ((a=none∧k=0∧c=0)∨∃o',d'.b=(X.D s i).b∧d'.o=o'∧a=some ⟨(X.D s i).b,o',none⟩∧(X.D s i).real∧o'+c * B.z≤(X.D s i).o+(X.D s i).cap * B.z∧c≤(X.D s i).cap∧k≤c∧(k=0∨o'=(X.D s i).o+off * B.z)):=by
  rcases hu with hu|⟨o',h1,h2⟩
  ·exact⟨{b:=0,z:=B.z,len:=k,v:=.slice a k c},rfl,rfl,rfl,.inl hu⟩
  ·exact⟨{b:=(X.D s i).b,z:=B.z,len:=k,v:=.slice a k c,o:=o'},rfl,rfl,rfl,.inr ⟨o',rfl,rfl,h1,h2⟩⟩
 let X':Refs:={D:=fun s' i'=>if s'=key∧i'=hnext h key then d' else X.D s' i',N:=fun s'=>if s'=key then hnext h key+1 else X.N s'}
 have hX:Xle X X':=by
  intro s' i' hi
  have:=hI.nb s'
  constructor
  ·simp only [X']; split
   ·rename_i hs; subst hs; omega
   ·exact hi
  ·left; simp only [X']; rw [if_neg]; rintro⟨rfl,rfl⟩; omega
 have hDn:X'.D key (hnext h key)=d':=by simp [X']
 have hold:∀s' i',¬ (s'=key∧i'=hnext h key)→X'.D s' i'=X.D s' i':=fun s' i' hn=>by simp only [X']; rw [if_neg hn]
 have get:∀{s' i' B'},hget (hpush (hcut h s i) key {B with els:=(B.els.drop off).take k}) s' i'=some B'→
   (s'=key∧i'=hnext h key∧B'={B with els:=(B.els.drop off).take k})∨(¬ (s'=key∧i'=hnext h key)∧hget h s' i'=some B'∧¬ (s'=s∧i'≤i)):=by
  intro s' i' B' hB'
  by_cases hnew:s'=key∧i'=hnext h key
  ·obtain⟨rfl,rfl⟩:=hnew
   rw [←hnk,hget_push_new]at hB'
   exact .inl ⟨rfl,rfl,(Option.some.inj hB').symm⟩
  ·rw [hget_push_old _ _ _ _ _ (fun e hi=>hnew ⟨e,by rw [hi,hnk]⟩),hget_cut]at hB'
   split at hB'
   ·cases hB'
   ·rename_i hc; exact .inr ⟨hnew,hB',hc⟩
 refine⟨X',hX,{gl:=hI.gl,abd:=hI.abd,aold:=hI.aold,akeep:=hI.akeep,os:=hI.os,tape:=hI.tape,output:=hI.output,size:=hI.size,same:=hI.same,xle:=hI.xle.trans hX,nb:=?_,blk:=?_,inj:=?_},.bsl key _ k a c (by simp [X']) (by rw [hDn,hd2]; exact Nat.le_refl _) (fun _=>by rw [hDn,hd3]),by rw [hDn,hd3]⟩
 ·intro s'
  rw [hnext_push,hnext_cut hlt]
  simp only [X']
  have:=hI.nb s'
  split
  ·rename_i hs; subst hs; omega
  ·omega
 ·intro s' i' B' hB'
  rcases get hB' with⟨rfl,rfl,rfl⟩|⟨hn,hg,_⟩
  ·refine {hN:=by simp [X'],hz:=by rw [hDn,hd1],hlen:=by rw [hDn,hd2,hlen],rows:=fun row hr=>hb.rows row (List.mem_of_mem_drop (List.mem_of_mem_take hr)),mem:=?_}
   rcases hd4 with⟨e1,e2,e3⟩|⟨o',e1,e2,e3,e4,e5,e6,e7,e8⟩
   ·subst e1 e2 e3
    exact .inl ⟨by rw [hDn,hd3],by simp⟩
   ·rcases hb.mem with hm|⟨arr,cap,h1,h2,h3,h4,h5,h6,h7,h8⟩
    ·exact absurd hm.1 e4
    ·have hcap:(X.D s i).cap=cap:=by unfold Hd.cap; rw [h2]
     rw [hcap]at e5 e6
     refine .inr ⟨arr,c,by rw [hDn,e1]; exact h1,by rw [hDn,hd3,e1,e2,hlen,e3],by rw [hlen]; exact e7,by omega,by rw [hDn,e2]; simp only; omega,?_,by rw [hDn,e1]; exact h7,by rw [hDn,e1]; exact h8⟩
     intro e j row x he hj
     have hek:e<k:=by have:=(List.getElem?_eq_some_iff.1 he).1; rw [hlen]at this; exact this
     rw [List.getElem?_take_of_lt hek,List.getElem?_drop]at he
     obtain⟨u,g1,g2,g3,g4⟩:=h6 _ j row x he hj
     refine⟨u,?_,g2,g3.mono (Later.refl w A) hX,g4⟩
     rw [hDn,e2]
     have e8:=e8.resolve_left (by omega)
     rw [Nat.add_mul]at g1
     rw [e8]
     simp only
     rw [show(X.D s i).o+off * B.z+e * B.z+j=(X.D s i).o+(off * B.z+e * B.z)+j by omega]
     exact g1
  ·have ho:=hI.blk s' i' B' hg
   have hD:=hold s' i' hn
   refine {hN:=(hX s' i' ho.hN).1,hz:=by rw [hD]; exact ho.hz,hlen:=by rw [hD]; exact ho.hlen,rows:=ho.rows,mem:=?_}
   rw [hD]
   rcases ho.mem with hm'|⟨arr',cap',h1,h2,h3,h4,h5,h6,h7,h8⟩
   ·exact .inl hm'
   ·refine .inr ⟨arr',cap',h1,h2,h3,h4,h5,?_,h7,h8⟩
    intro e j row c he hj
    obtain⟨u,g1,g2,g3,g4⟩:=h6 e j row c he hj
    exact⟨u,g1,g2,g3.mono (Later.refl w A) hX,g4⟩
 ·intro s1 i1 B1 s2 i2 B2 hb1 hb2 hr1 hr2 heq
  have clash:∀s' i' B',hget h s' i'=some B'→¬ (s'=s∧i'≤i)→(X.D s' i').real→d'.real→d'.b=(X.D s' i').b→False:=by
   intro s' i' B' hg hc hr hdr e
   rcases hd4 with⟨e1,e2,e3⟩|⟨o',e1,e2,e3,e4,_⟩
   ·subst e1 e2 e3; exact hdr hd3
   ·obtain⟨rfl,rfl⟩:=hI.inj s' i' B' s i B hg hB hr e4 (by rw [←e,e1])
    exact hc ⟨rfl,Nat.le_refl _⟩
  rcases get hb1 with⟨rfl,rfl,rfl⟩|⟨hn1,hg1,hc1⟩<;>rcases get hb2 with⟨rfl,rfl,rfl⟩|⟨hn2,hg2,hc2⟩
  ·exact⟨rfl,rfl⟩
  ·rw [hDn]at hr1 heq
   rw [hold _ _ hn2]at hr2 heq
   exact(clash _ _ _ hg2 hc2 hr2 hr1 heq).elim
  ·rw [hDn]at hr2 heq
   rw [hold _ _ hn1]at hr1 heq
   exact(clash _ _ _ hg1 hc1 hr1 hr2 heq.symm).elim
  ·rw [hold _ _ hn1]at hr1 heq
   rw [hold _ _ hn2]at hr2 heq
   exact hI.inj s1 i1 B1 s2 i2 B2 hg1 hg2 hr1 hr2 heq
theorem sCut_sound {key:Nat} {T:TypeId} {x:V} {u:Value} {lo hi mx:Option (Option Int)} {ul uh um:Option Value} (hI:Inv F w A X h) (hr:RV w A X x u)
  (hlo:∀r,lo=some r→OptR r ul) (hhi:∀r,hi=some r→OptR r uh) (hmx:∀r,mx=some r→OptR r um) (hc:(sCut P key T x lo hi mx h).c) :
  ∃r X',(Instr.sliceAt T u ul uh um).run P w=.ok r w∧Xle X X'∧Inv F w A X' (sCut P key T x lo hi mx h).h∧RV w A X' (sCut P key T x lo hi mx h).v r:=by
 unfold sCut at hc ⊢
 split at hc
 ·rename_i lo hi s i n e hs
  have hlo:=hlo lo rfl
  have hhi:=hhi hi rfl
  have hmx:=hmx none rfl
  cases um with
  | some=>exact hmx.elim
  | none=>
  cases hg:hget h s i with
  | none=>simp [hg,bad]at hc
  | some B=>
   simp only [hg]at hc ⊢
   obtain⟨h1,h2,h3,hfz,h4,h5,h6⟩:=hc
   obtain⟨a,c,rfl,hN,hn',hv⟩:=hr.bsl_inv
   have hb:=hI.blk s i B hg
   have hv':=hv (by rw [hb.hlen]; exact h3)
   have hz0:0<P.cellsOf e:=by omega
   generalize hl:(lo.getD 0).toNat=l at *
   generalize hm:(hi.getD n).toNat=m at *
   have hnc:n≤c:=by
    rcases hb.mem with⟨k1,k2⟩|⟨arr,cap,g1,g2,g3,_⟩
    ·rw [k1]at hv'; injection hv' with e1 e2 e3; omega
    ·rw [g2]at hv'; injection hv' with e1 e2 e3; omega
   have hrun:=sliceAt_slice (P:=P) (w:=w) (slEl_some hs) hz0 (a:=a) (len:=n) (cap:=c) hlo hhi h4 h5 (by omega)
   rw [hl,hm]at hrun
   have hw:=hI.moveW hg hfz key (off:=l) (k:=m - l) (c:=c - l) (a:=if c=l then a else a.map (·.add (l * P.cellsOf e))) (by omega) (by
    rcases hb.mem with⟨k1,k2⟩|⟨arr,cap,g1,g2,g3,g4,g5,g6,g7,g8⟩
    ·rw [k1]at hv'
     injection hv' with e1 e2 e3
     subst e1
     refine .inl ⟨by split<;>rfl,by omega,by omega⟩
    ·rw [g2]at hv'
     injection hv' with e1 e2 e3
     subst e1
     have hcap:(X.D s i).cap=cap:=by unfold Hd.cap; rw [g2]
     subst e3
     refine .inr ⟨if c=l then (X.D s i).o else (X.D s i).o+l * P.cellsOf e,?_,by unfold Hd.real; rw [g2]; simp,?_,by omega,by omega,?_⟩
     ·split
      ·rfl
      ·simp only [Option.map_some,addr_add]
     ·rw [hcap,←h1]
      split
      ·rename_i e; rw [e,Nat.sub_self,Nat.zero_mul]; omega
      ·have:l * B.z+(c - l) * B.z=c * B.z:=by rw [←Nat.add_mul]; congr 1; omega
       omega
     ·by_cases hk:m - l=0
      ·exact .inl hk
      ·right; rw [if_neg (by omega),h1])
   obtain⟨X',x1,x2,x3,_⟩:=hw
   exact⟨_,X',hrun,x1,x2,x3⟩
 ·exact hc.elim
omit [Gls]in
theorem srcB_eq (h:Hp) (z:Nat) (x:V):srcB h z x=srcV h z x:=by cases x<;>rfl
omit [Gls]in
theorem takeV_sound {z:Nat} {x:V} {u:Value} {m:Nat} (hr:RV w A X x u) (hx:x.len=some m) {k:Nat} (hk:k≤m) (hl:(srcV h z (takeV k x)).2.1.length=k) (hc:(srcV h z (takeV k x)).1) :
  ∃a c,u=.slice a m c∧RV w A X (takeV k x) (.slice a k c):=by
 obtain⟨a,c,rfl⟩:=hr.len_inv hx
 refine⟨a,c,rfl,?_⟩
 cases x<;>simp only [V.len,Option.some.injEq,reduceCtorEq]at hx
 case nil => subst hx; have : k = 0 := by omega
             subst this; exact hr
 case emp => subst hx; have : k = 0 := by omega
             subst this; exact hr
 case sl z els=>
  subst hx
  have h':=hr.sl_inv
  simp only [takeV]
  cases h' with
  | sl0 => have : k = 0 := by simpa using hk
           subst this; exact .pure (.sl0 _ _ _)
  | sl _ _ b off cap us hcap hb hA hz hcell hv=>
   have hp:=PV.sl (w:=w) (A:=A) z (els.take k) b off c us (by rw [List.length_take]; omega) hb hA (fun row hr=>hz row (List.mem_of_mem_take hr))
    (fun e j row x he hj=>by rw [List.getElem?_take]at he; split at he; exact hcell e j row x he hj; cases he) (fun e j row x he hj=>by rw [List.getElem?_take]at he; split at he; exact hv e j row x he hj; cases he)
   rw [List.length_take,show min k els.length=k by omega]at hp
   exact .pure hp
 case bsl s i n=>
  subst hx
  simp only [takeV,srcV]at hl hc ⊢
  cases hg:hget h s i with
  | none=>simp [hg]at hc
  | some B=>
   simp only [hg]at hl hc
   have:k=n:=by omega
   subst this; exact hr
 case osl s i n off len cap=>
  subst hx
  simp only [takeV]
  obtain⟨a',c',e,hcc,hN,hn',hv⟩:=hr.osl_inv
  injection e with e1 e2 e3
  subst e1 e3
  rw [show min k len=k by omega]
  exact .osl s i n off k cap a' c hcc hN hn' hv
structure Nws (w:World) (A:Nat→Prop) (X:Refs) (size:Nat) (els:List (List V)) (cl:Bool) (news:List Value):Prop where
 rows:∀row∈els,row.length=size
 len:news.length=els.length * size
 cells:∀e j row c,els[e]?=some row→row[j]?=some c→∃u,news[e * size+j]?=some u∧RV w A X c u∧(cl=true→PV w A c u)
 one:∀u∈news,u.oneCell'=true
theorem Inv.writeIn (hI:Inv F w A X h) {s i:Nat} {B:Blk} (hB:hget h s i=some B) (hfz:B.fz=false) {els2:List (List V)} {cl2:Bool} {news:List Value} (hsrc:Nws w A X B.z els2 cl2 news) {off:Nat} (hne:B.els≠[]) (hroom:off+els2.length≤B.els.length) :
  ∃w',(storeCells ⟨(X.D s i).b,(X.D s i).o+off * B.z,none⟩ news).run P w=.ok () w'∧Later w A w' A∧
   Inv F w' A X (hset h s i {B with els:=B.els.take off++els2++B.els.drop (off+els2.length),cl:=B.cl && cl2}):=by
 have hb:=hI.blk s i B hB
 have hreal:=hb.real hne
 rcases hb.mem with hm|⟨arr,cap',h1,h2,h3,h4,h5,h6,h7,h8⟩
 ·exact absurd hm.2 hne
 have hel:(off+els2.length) * B.z≤cap' * B.z:=Nat.mul_le_mul_right _ (by omega)
 have hal:(X.D s i).o+off * B.z+news.length≤arr.toList.length:=by have e1:arr.toList.length=arr.size:=Array.length_toList; have e2:=hsrc.len; rw [Nat.add_mul]at hel; omega
 have hr:=run_storeCells_at P (X.D s i).b ((X.D s i).o+off * B.z) B.ty news 0 arr w h1 (by simpa using hal) hsrc.one
 simp only [Nat.add_zero]at hr
 refine⟨_,hr,hI.turn hB (by simp [World.setRow]) rfl rfl rfl hfz hreal (fun b hbne=>setRow_other w _ b _ hbne) ?_⟩
 intro hL
 have hlen:(B.els.take off++els2++B.els.drop (off+els2.length)).length=B.els.length:=by
  simp only [List.length_append,List.length_take,List.length_drop]; omega
 refine {hN:=hb.hN,hz:=hb.hz,hlen:=by rw [hb.hlen]; exact hlen.symm,rows:=?_,mem:=.inr ⟨_,cap',setRow_heap w _ arr _ B.ty _ h1,by simp only [hlen]; exact h2,by simp only [hlen]; exact h3,h4,?_,?_,h7,h8⟩}
 ·intro row hrow
  simp only [List.mem_append]at hrow
  rcases hrow with(hrow|hrow)|hrow
  ·exact hb.rows row (List.mem_of_mem_take hrow)
  ·exact hsrc.rows row hrow
  ·exact hb.rows row (List.mem_of_mem_drop hrow)
 ·simp only [List.size_toArray,List.length_append,List.length_take,List.length_drop,Array.length_toList]
  simp at hal; omega
 ·intro e' j' row c he' hj'
  simp only at he'
  simp only [List.getElem?_toArray]
  rw [seg_get _ _ _ _ hal]
  rw [List.getElem?_append,List.getElem?_append]at he'
  simp only [List.length_append,List.length_take]at he'
  have hmin:min off B.els.length=off:=by omega
  rw [hmin]at he'
  by_cases c1:e'<off
  ·rw [if_pos (by omega),if_pos c1,List.getElem?_take_of_lt c1]at he'
   obtain⟨u,g1,g2,g3,g4⟩:=h6 e' j' row c he' hj'
   have hj2:j'<B.z:=by rw [←hb.rows row (List.mem_of_getElem? he')]; exact(List.getElem?_eq_some_iff.1 hj').1
   refine⟨u,?_,g2,g3.mono hL (Xle.refl X),fun hcl=>(g4 (by simp at hcl; exact hcl.1)).mono hL⟩
   have:=idx_lt c1 hj2
   rw [if_pos (by omega)]; simpa using g1
  ·by_cases c2:e'<off+els2.length
   ·rw [if_pos c2,if_neg c1]at he'
    obtain⟨u,g1,g3,g4⟩:=hsrc.cells _ j' row c he' hj'
    have hj2:j'<B.z:=by rw [←hsrc.rows row (List.mem_of_getElem? he')]; exact(List.getElem?_eq_some_iff.1 hj').1
    have k1:off * B.z≤e' * B.z:=Nat.mul_le_mul_right _ (by omega)
    have k2:(e' - off) * B.z=e' * B.z - off * B.z:=Nat.sub_mul ..
    have k3:(e' - off) * B.z+j'<news.length:=(List.getElem?_eq_some_iff.1 g1).1
    refine⟨u,?_,hsrc.one u (List.mem_of_getElem? g1),g3.mono hL (Xle.refl X),fun hcl=>(g4 (by simp at hcl; exact hcl.2)).mono hL⟩
    rw [if_neg (by omega),if_pos (by omega),show(X.D s i).o+e' * B.z+j' - ((X.D s i).o+off * B.z)=(e' - off) * B.z+j' by omega]
    exact g1
   ·rw [if_neg c2,List.getElem?_drop,show off+els2.length+(e' - (off+els2.length))=e' by omega]at he'
    obtain⟨u,g1,g2,g3,g4⟩:=h6 e' j' row c he' hj'
    have k1:(off+els2.length) * B.z≤e' * B.z:=Nat.mul_le_mul_right _ (by omega)
    rw [Nat.add_mul,←hsrc.len]at k1
    refine⟨u,?_,g2,g3.mono hL (Xle.refl X),fun hcl=>(g4 (by simp at hcl; exact hcl.1)).mono hL⟩
    rw [if_neg (by omega),if_neg (by omega)]; simpa using g1
theorem Inv.copyIn (hI:Inv F w A X h) {s i:Nat} {B:Blk} (hB:hget h s i=some B) (hfz:B.fz=false) {els2:List (List V)} {cl2:Bool} {news:List Value} {x:Value} (hsrc:Src P w A X B.z x els2 cl2 news) {off:Nat} (hne:B.els≠[]) (hroom:off+els2.length≤B.els.length) :
  ∃w',(storeCells ⟨(X.D s i).b,(X.D s i).o+off * B.z,none⟩ news).run P w=.ok () w'∧Later w A w' A∧
   Inv F w' A X (hset h s i {B with els:=B.els.take off++els2++B.els.drop (off+els2.length),cl:=B.cl && cl2}):=
 hI.writeIn hB hfz ⟨hsrc.rows,hsrc.len,hsrc.cells,hsrc.one⟩ hne hroom
theorem sCopy_sound {T T2 ty:TypeId} {d x:V} {ud ux:Value} (hI:Inv F w A X h) (hd:RV w A X d ud) (hx:RV w A X x ux) (hc:(sCopy P T d x h).c) :
  ∃r w',(Builtin.copy_ #[T,T2] ty #[ud,ux]).run P w=.ok r w'∧Later w A w' A∧Inv F w' A X (sCopy P T d x h).h∧RV w' A X (sCopy P T d x h).v r:=by
 unfold sCopy at hc ⊢
 split at hc
 ·rename_i e s0 i0 n0 off len cap m hs hm
  cases hg:hget h s0 i0 with
  | none=>simp [hg,bad]at hc
  | some B=>
   simp only [hg,srcB_eq]at hc ⊢
   obtain⟨c1,c2,c3,c4,c5,c6,c7,c8,c9,c10⟩:=hc
   obtain⟨i,zv,hi,hsz,hz,hzc,hzs⟩:=zc_some (by omega) c5
   obtain⟨a',c',rfl,hr'⟩:=takeV_sound (h:=h) (z:=B.z) hx hm (Nat.min_le_left m len) c2 c1
   obtain⟨news,hsrc⟩:=srcV_sound (P:=P) hI c4 hr' c1
   obtain⟨a,c'',rfl,hcc,hN,hn',hv⟩:=hd.osl_inv
   have hb:=hI.blk s0 i0 B hg
   obtain⟨hv1,hv2⟩:=hv (by rw [hb.hlen]; exact c8)
   rw [hb.hz]at hv1
   subst hv1
   have hu:=slEl_some hs
   obtain⟨w',g1,g2,g3⟩:=hI.copyIn (P:=P) hg c7 hsrc (off:=off) c9 (by rw [c2]; omega)
   have hrun:=hsrc.run
   rw [c2]at hrun g3
   refine⟨.int .i64 (min m len:Nat),w',?_,g2,g3,.pure (.int _ _)⟩
   have hsz2:i.size=B.z:=by rw [hsz,c3]
   have hf:(Builtin.firstCells i.size (min m len) (.slice a' m c')).run P w=.ok news.toArray w:=by
    rw [hsz2]; cases a'<;>exact hrun
   have e0:m.min len=min m len:=rfl
   simp [Builtin.copy_,run_underlying hu,sizeOf,typeInfo,hi,Builtin.lenOf,e0,hf,g1,goInt]
 ·exact hc.elim
theorem sClear_sound {T ty:TypeId} {x:V} {u:Value} (hI:Inv F w A X h) (hx:RV w A X x u) (hc:(sClear P T x h).c) :
  ∃r w',(Builtin.clear_ #[T] ty #[u]).run P w=.ok r w'∧Later w A w' A∧Inv F w' A X (sClear P T x h).h∧RV w' A X (sClear P T x h).v r:=by
 unfold sClear at hc ⊢
 split at hc
 ·rename_i e s i n off len cap hs
  cases hg:hget h s i with
  | none=>simp [hg,bad]at hc
  | some B=>
   simp only [hg]at hc ⊢
   obtain⟨c1,c2,c3,c4,c5,c6,c7,c8,c9⟩:=hc
   obtain⟨ti,zv,hi,hsz,hz,hzc,hzs⟩:=zc_some (by omega) c3
   obtain⟨a,c,rfl,hcc,hN,hn',hv⟩:=hx.osl_inv
   have hb:=hI.blk s i B hg
   obtain⟨hv1,hv2⟩:=hv (by rw [hb.hlen]; exact c6)
   rw [hb.hz]at hv1
   subst hv1
   have hu:=slEl_some hs
   have hzl:zv.cells.size=B.z:=by rw [hzs,c1]
   have hget:∀e1 j,e1<len→j<zv.cells.size→(Builtin.zeroCells zv.cells len).toList[e1 * B.z+j]?=zv.cells[j]?:=by
    intro e1 j h1 h2
    have hlt:e1 * B.z+j<len * B.z:=by
     have:(e1+1) * B.z≤len * B.z:=Nat.mul_le_mul_right _ h1
     rw [Nat.add_mul]at this; omega
    simp only [Builtin.zeroCells,Array.getElem?_toList]
    rw [←hzl]at hlt ⊢
    have hm:(e1 * zv.cells.size+j) % zv.cells.size=j:=by rw [Nat.mul_comm,Nat.mul_add_mod,Nat.mod_eq_of_lt h2]
    simp [hlt,hm,h2]
   have hlen:(Builtin.zeroCells zv.cells len).toList.length=len * B.z:=by simp [Builtin.zeroCells,hzl]
   have hok:=ofVal1_cells (w:=w) (A:=A) (X:=X) (zs:=zv.cells) (by rw [←hzc]; exact c4)
   rw [←hzc]at hok
   have hn:Nws w A X B.z (List.replicate len (zc P e)) true (Builtin.zeroCells zv.cells len).toList:=by
    refine⟨fun row hr=>by rw [List.eq_of_mem_replicate hr,c3,c1],by rw [hlen,List.length_replicate],fun e1 j row c he hj=>?_,fun u hu'=>?_⟩
    ·have hlt:e1<len:=by have:=(List.getElem?_eq_some_iff.1 he).1; simpa using this
     have hrow:row=zc P e:=List.eq_of_mem_replicate (List.mem_of_getElem? he)
     subst hrow
     have hjl:j<zv.cells.size:=by have:=(List.getElem?_eq_some_iff.1 hj).1; omega
     obtain⟨u,k1,k2,k3⟩:=hok.2 j c hj
     refine⟨u,by rw [hget e1 j hlt hjl]; exact k1,k3,fun _=>?_⟩
     rw [hzc]at hj
     obtain⟨x,hx,hp⟩:=ofVal1_pv (w:=w) (A:=A) hj
     have hx':zv.cells[j]?=some x:=by simpa using hx
     rw [k1]at hx'; cases hx'; exact hp
    ·obtain⟨k,hk,hke⟩:=List.getElem_of_mem hu'
     rw [hlen]at hk
     have e1:k / B.z<len:=Nat.div_lt_of_lt_mul (by rw [Nat.mul_comm]; exact hk)
     have e2:k % B.z<zv.cells.size:=by rw [hzl]; exact Nat.mod_lt _ c2
     have:=hget (k / B.z) (k % B.z) e1 e2
     rw [Nat.div_add_mod' k B.z,List.getElem?_eq_getElem (by rw [hlen]; exact hk),hke,Array.getElem?_eq_getElem e2]at this
     have hjz:(k % B.z)<(zc P e).length:=by rw [c3,←hzs]; exact e2
     obtain⟨u',k1,k2,_⟩:=hok.2 (k % B.z) _ (List.getElem?_eq_getElem hjz)
     rw [Array.getElem?_eq_getElem e2]at k1
     cases k1
     cases this
     exact k2
   obtain⟨w',g1,g2,g3⟩:=hI.writeIn (P:=P) hg c5 hn (off:=off) c7 (by rw [List.length_replicate]; exact c8)
   rw [List.length_replicate,Bool.and_true]at g3
   refine⟨.tuple #[],w',?_,g2,g3,.pure (.tup [] #[] rfl (by simp))⟩
   obtain⟨m,rfl⟩:∃m,len=m+1:=⟨len - 1,by omega⟩
   simp [Builtin.clear_,run_underlying hu,zeroValue,typeInfo,hi,hz,g1]
 ·exact hc.elim
end
end Go.Sx
end
section
namespace Go.Sx
open Go.RowKit
variable [Gls]
def PureOK (P:Program) (f:FuncId) (S:PSpec):Prop:=
 ∀d:S.dom,S.pre d→∀(w:World) (A:Nat→Prop) (vals:Array Value),GOK w A→(∀b,A b→b<w.heap.size)→vals.size=(S.enc d).length→
  (∀(i:Nat) (c:V),(S.enc d)[i]?=some c→PV w A c (vals.getD i und))→
  Calls P f vals w fun e w'=>∃v,e=.returned v∧Below w.heap.size w w'∧PV w' A (S.res d) v
def ownM (X:Refs) (h:Hp) (b:Nat):Prop:=∃s i B,hget h s i=some B∧B.fz=false∧(X.D s i).real∧(X.D s i).b=b
def HeapOK (P:Program) (f:FuncId) (S:HSpec):Prop:=
 ∀(args:List V) (h:Hp),(S.go args h).c→∀(w:World) (A:Nat→Prop) (X:Refs) (vals:Array Value),Inv ⟨w,A,X,ownM X h⟩ w A X h→vals.size=args.length→
  (∀(i:Nat) (c:V),args[i]?=some c→RV w A X c (vals.getD i und))→
  Calls P f vals w fun e w'=>∃v A' X',e=.returned v∧Inv ⟨w,A,X,ownM X h⟩ w' A' X' (S.go args h).h∧RV w' A' X' (S.go args h).v v
def Fr.stop (F:Fr) (l:Nat) (r:Loop):Fr:={F with w0:=F.w0.putObj l (.loop r)}
def BStab (l:Nat) (B:World→(Nat→Prop)→Refs→Prop):Prop:=
 (∀w A X,B w A X→∃r,w.heap[l]?=some (.loop r))∧
 ∀w A X h w' A' X' h',B w A X→Inv ⟨w,A,X,ownM X h⟩ w A X h→Inv ⟨w,A,X,ownM X h⟩ w' A' X' h'→B w' A' X'
def Ends (F:Fr) (l:Nat) (Pr:Loop→Prop) (w':World) (A':Nat→Prop) (X':Refs) (h':Hp):Prop:=
 (h' YS).blks=[]∧(((h' YS).fl=false∧Inv F w' A' X' h')∨((h' YS).fl=true∧∃r:Loop,Pr r∧Inv (F.stop l r) w' A' X' h'))
def YOK0 (P:Program) (l:Nat) (Pr:Loop→Prop) (Y:HSpec) (B:World→(Nat→Prop)→Refs→Prop):Prop:=
 ∀(args:List V) (h:Hp),(Y.go args h).c→(h YS).blks=[]∧(h YS).fl=false∧∀(w:World) (A:Nat→Prop) (X:Refs) (vals:Array Value),B w A X→Inv ⟨w,A,X,ownM X h⟩ w A X h→vals.size=args.length→
  (∀(i:Nat) (c:V),args[i]?=some c→RV w A X c (vals.getD i und))→
  ∃fn tmps assign body,(Instr.yield l vals).run P w=.ok (.round l fn tmps assign body) w∧RoundIn Fence.wide 0 P l fn tmps assign body w fun e w'=>
   ∃v A' X',e=.returned v∧Ends ⟨w,A,X,ownM X h⟩ l Pr w' A' X' (Y.go args h).h∧RV w' A' X' (Y.go args h).v v
def IterOK (P:Program) (f:FuncId) (S:Nat→HSpec→HSpec):Prop:=
 ∀(l:Nat) (Y:HSpec) (Pr:Loop→Prop) (B:World→(Nat→Prop)→Refs→Prop),BStab l B→YOK0 P l Pr Y B→∀(args:List V) (h:Hp),((S l Y).go args h).c→(h YS).blks=[]→(h YS).fl=false→
  ∀(w:World) (A:Nat→Prop) (X:Refs) (vals:Array Value),B w A X→Inv ⟨w,A,X,ownM X h⟩ w A X h→vals.size=args.length→
  (∀(i:Nat) (c:V),args[i]?=some c→RV w A X c (vals.getD i und))→
  Calls P f vals w fun e w'=>∃v A' X',e=.returned v∧Ends ⟨w,A,X,ownM X h⟩ l Pr w' A' X' ((S l Y).go args h).h∧RV w' A' X' ((S l Y).go args h).v v
structure FnOK (P:Program) (f:FuncId) (S:Spec):Prop where
 call:∀(args:Array Value) (w:World),(callFunc f args).run P w=.ok (.enter f args) w
 pure:∀S',S=.pure S'→PureOK P f S'
 heap:∀S',S=.heap S'→HeapOK P f S'
 iter:∀S',S=.iter S'→IterOK P f S'
def TblOK (E:Env):Prop:=∀f S,E.fn f=some S→FnOK E.P f S
section
variable {F:Fr} {w:World} {A:Nat→Prop} {X:Refs} {h:Hp} {P:Program}
theorem Inv.below (hI:Inv F w A X h) {w':World} (hb:Below w.heap.size w w'):Later w A w' A∧Inv F w' A X h:=by
 have hL:Later w A w' A:=⟨hb.size,fun b hlt hA=>⟨hb.block b hlt,hA⟩⟩
 refine⟨hL,{gl:=hI.gl.mono hL,abd:=?_,aold:=hI.aold,akeep:=hI.akeep,os:=hb.os.trans hI.os,tape:=hb.tape.trans hI.tape,output:=hb.output.trans hI.output,size:=Nat.le_trans hI.size hb.size,same:=?_,xle:=hI.xle,nb:=hI.nb,blk:=?_,inj:=hI.inj}⟩
 ·intro b hA; have:=hI.abd b hA; have:=hb.size; omega
 ·intro b hlt hM; have:=hI.size; rw [hb.block b (by omega)]; exact hI.same b hlt hM
 intro s i B hB
 have ho:=hI.blk s i B hB
 refine {hN:=ho.hN,hz:=ho.hz,hlen:=ho.hlen,rows:=ho.rows,mem:=?_}
 rcases ho.mem with hm|⟨arr,cap,h1,h2,h3,h4,h5,h6,h7,h8⟩
 ·exact .inl hm
 ·have hlt:(X.D s i).b<w.heap.size:=(Array.getElem?_eq_some_iff.1 h1).1
  refine .inr ⟨arr,cap,by rw [hb.block _ hlt]; exact h1,h2,h3,h4,h5,?_,h7,h8⟩
  intro e j row c he hj
  obtain⟨u,g1,g2,g3,g4⟩:=h6 e j row c he hj
  exact⟨u,g1,g2,g3.mono hL (Xle.refl X),fun hcl=>(g4 hcl).mono hL⟩
def lentA (A:Nat→Prop) (X:Refs) (h:Hp) (b:Nat):Prop:=A b∧¬ ownM X h b
omit [Gls]in
theorem PV.lent {x:V} {u:Value} (hx:PV w A x u):PV w (lentA A X h) x u:=hx.mono ⟨Nat.le_refl _,fun _ _ hA=>⟨rfl,fun hl=>hA hl.1⟩⟩
omit [Gls]in
theorem lendCs_get {g:V→Prop × V}:∀(cs:List V) (j:Nat) (c:V),(lendCs g cs).1→(lendCs g cs).2[j]?=some c→∃x,cs[j]?=some x∧(g x).2=c∧(g x).1∧x.leaf=true
 | [],j,c,_,h=>by simp [lendCs]at h
 | x::cs,0,c,hc,h=>by simp [lendCs]at h; exact⟨x,rfl,h,hc.1.2,hc.1.1⟩
 | x::cs,j+1,c,hc,h=>by simp only [lendCs,List.getElem?_cons_succ]at h ⊢; exact lendCs_get cs j c hc.2 h
omit [Gls]in
theorem lendCs_len (g:V→Prop × V):∀(cs:List V),(lendCs g cs).2.length=cs.length
 | []=>rfl
 | x::cs=>by simp [lendCs,lendCs_len g cs]
omit [Gls]in
theorem lendRs_get {g:V→Prop × V}:∀(rs:List (List V)) (e:Nat) (row:List V),(lendRs g rs).1→(lendRs g rs).2[e]?=some row→∃x,rs[e]?=some x∧(lendCs g x).2=row∧(lendCs g x).1
 | [],e,row,_,h=>by simp [lendRs]at h
 | x::rs,0,row,hc,h=>by simp [lendRs]at h; exact⟨x,rfl,h,hc.1⟩
 | x::rs,e+1,row,hc,h=>by simp only [lendRs,List.getElem?_cons_succ]at h ⊢; exact lendRs_get rs e row hc.2 h
omit [Gls]in
theorem lendRs_len (g:V→Prop × V):∀(rs:List (List V)),(lendRs g rs).2.length=rs.length
 | []=>rfl
 | x::rs=>by simp [lendRs,lendRs_len g rs]
omit [Gls]in
theorem lendB_len (g:V→Prop × V) (B:Blk):(lendB g B).2.length=B.els.length:=by
 unfold lendB; split
 ·rfl
 ·exact lendRs_len g _
omit [Gls]in
theorem lendB_nil {g:V→Prop × V} {B:Blk} (h:B.els=[]):(lendB g B).2=[]:=List.eq_nil_of_length_eq_zero (by rw [lendB_len,h]; rfl)
theorem lent_block {A':Nat→Prop} {g:V→Prop × V} {G:V→Prop} (hm:∀x u,PV w A x u→PV w A' x u) (hgs:∀x u,RV w A X x u→(g x).1→x.leaf=true→G x→PV w A' (g x).2 u) (hI:Inv F w A X h) {s i:Nat} {B:Blk} (hg:hget h s i=some B) (hc:(lendB g B).1) {arr:Array Value} {cap:Nat} (h1:w.heap[(X.D s i).b]?=some (.cells arr B.ty (0,0))) (h2:(X.D s i).v=.slice (some ⟨(X.D s i).b,(X.D s i).o,none⟩) B.els.length cap)
  (h6:∀e j row c,B.els[e]?=some row→row[j]?=some c→∃u,arr[(X.D s i).o+e * B.z+j]?=some u∧u.oneCell'=true∧RV w A X c u∧(B.cl=true→PV w A c u)) (hG:B.cl=false→∀row∈B.els,∀c∈row,G c) (hnb:¬ A' (X.D s i).b) :
  (X.D s i).b<w.heap.size∧¬ A' (X.D s i).b∧(∀row∈(lendB g B).2,row.length=B.z)∧
   (∀e j row c,(lendB g B).2[e]?=some row→row[j]?=some c→w.cell? ⟨(X.D s i).b,(X.D s i).o+e * B.z+j,none⟩=some ((w.cell? ⟨(X.D s i).b,(X.D s i).o+e * B.z+j,none⟩).getD und)∧((w.cell? ⟨(X.D s i).b,(X.D s i).o+e * B.z+j,none⟩).getD und).oneCell'=true)∧
   (∀e j row c,(lendB g B).2[e]?=some row→row[j]?=some c→PV w (A') c ((w.cell? ⟨(X.D s i).b,(X.D s i).o+e * B.z+j,none⟩).getD und)):=by
 have hb:=hI.blk s i B hg
 have hcell:∀e j row c,(lendB g B).2[e]?=some row→row[j]?=some c→∃u,w.cell? ⟨(X.D s i).b,(X.D s i).o+e * B.z+j,none⟩=some u∧u.oneCell'=true∧PV w (A') c u:=by
  intro e j row c he hj
  unfold lendB at he hc
  split at he
  ·rename_i hcl
   obtain⟨u,k1,k2,k3,k4⟩:=h6 e j row c he hj
   exact⟨u,by simp [World.cell?,h1,k1],k2,hm _ _ (k4 hcl)⟩
  ·rename_i hcl
   rw [hcl]at hc
   obtain⟨row0,e1,e2,e3⟩:=lendRs_get _ _ _ hc he
   subst e2
   obtain⟨c0,f1,f2,f3,f4⟩:=lendCs_get _ _ _ e3 hj
   subst f2
   obtain⟨u,k1,k2,k3,k4⟩:=h6 e j row0 c0 e1 f1
   exact⟨u,by simp [World.cell?,h1,k1],k2,hgs c0 u k3 f3 f4 (hG (by simpa using hcl) row0 (List.mem_of_getElem? e1) c0 (List.mem_of_getElem? f1))⟩
 refine⟨(Array.getElem?_eq_some_iff.1 h1).1,hnb,fun row hrow=>?_,fun e j row c he hj=>?_,fun e j row c he hj=>?_⟩
 ·unfold lendB at hrow hc
  split at hrow
  ·exact hb.rows row hrow
  ·rename_i hcl
   rw [hcl]at hc
   obtain⟨e,he⟩:=List.getElem?_of_mem hrow
   obtain⟨row0,e1,e2,e3⟩:=lendRs_get _ _ _ hc he
   rw [←e2,lendCs_len]
   exact hb.rows row0 (List.mem_of_getElem? e1)
 ·obtain⟨u,k1,k2,k3⟩:=hcell e j row c he hj
  rw [k1]; exact⟨rfl,k2⟩
 ·obtain⟨u,k1,k2,k3⟩:=hcell e j row c he hj
  rw [k1]; exact k3
omit [Gls]in
theorem leaf_shape {x:V} (h:x.leaf=true):¬ (∃cs,x=.agg cs)∧¬ (∃cs,x=.tup cs)∧¬ (∃f c cs,x=.fn f (c::cs)):=
 ⟨by rintro⟨cs,rfl⟩; simp [V.leaf]at h,by rintro⟨cs,rfl⟩; simp [V.leaf]at h,by rintro⟨f,c,cs,rfl⟩; simp [V.leaf]at h⟩
theorem lendX_sound {A':Nat→Prop} {g:V→Prop × V} {G:V→Prop} (hm:∀x u,PV w A x u→PV w A' x u) (hgs:∀x u,RV w A X x u→(g x).1→x.leaf=true→G x→PV w A' (g x).2 u) (hI:Inv F w A X h) {x:V} {u:Value} (hr:RV w A X x u)
  (hat:∀s i B,x.at?=some (s,i)→hget h s i=some B→((X.D s i).real→(B.fz=true→¬ A (X.D s i).b)→¬ A' (X.D s i).b)∧(B.cl=false→∀row∈B.els,∀c∈row,G c))
  (hshape:¬ (∃cs,x=.agg cs)∧¬ (∃cs,x=.tup cs)∧¬ (∃f c cs,x=.fn f (c::cs))) {y:Prop × V}
  (hy:y=match x with
   | .bsl s i n=>(match hget h s i with
    | some B=>(n=B.els.length∧(lendB g B).1,.sl B.z (lendB g B).2)
    | none=>(False,.top))
   | .osl s i n off len cap=>(match hget h s i with
    | some B=>(n=B.els.length∧off+len≤B.els.length∧(lendB g B).1∧len≤cap,.sl B.z (((lendB g B).2.drop off).take len))
    | none=>(False,.top))
   | .bptr s i n e j=>(match hget h s i with
    | some B=>(n=B.els.length∧(lendB g B).1∧B.els≠[],.ip B.z (lendB g B).2 e j)
    | none=>(False,.top))
   | v=>(True,v)) (hc:y.1):PV w (A') y.2 u:=by
 subst hy
 cases x<;>simp only at hc ⊢
 case agg cs=>exact absurd ⟨cs,rfl⟩ hshape.1
 case tup cs=>exact absurd ⟨cs,rfl⟩ hshape.2.1
 case fn f cs=>
  cases cs with
  | nil=>exact hm _ _ (PV.of_refFree1 hr rfl)
  | cons c cs=>exact absurd ⟨f,c,cs,rfl⟩ hshape.2.2
 case bsl s i n=>
  cases hg:hget h s i with
  | none=>simp [hg]at hc
  | some B=>
   simp only [hg]at hc ⊢
   obtain⟨hn,hcl⟩:=hc
   obtain⟨a,c,rfl,hN,hn',hv⟩:=hr.bsl_inv
   have hb:=hI.blk s i B hg
   have hv':=hv (by rw [hb.hlen]; exact hn)
   rcases hb.mem with⟨h1,h2⟩|⟨arr,cap,h1,h2,h3,h4,h5,h6,h7,h8⟩
   ·rw [h1]at hv'
    injection hv' with e1 e2 e3
    subst e1 e2
    rw [lendB_nil h2]; exact .sl0 _ _ _
   ·rw [h2]at hv'
    injection hv' with e1 e2 e3
    subst e1 e2
    obtain⟨g1,g2,g3,g4,g5⟩:=lent_block hm hgs hI hg hcl h1 h2 h6 (hat s i B rfl hg).2 ((hat s i B rfl hg).1 (by unfold Hd.real; rw [h2]; simp) h7)
    have hll:=lendB_len g B
    have:=PV.sl (w:=w) (A:=A') B.z (lendB g B).2 (X.D s i).b (X.D s i).o c _ (by omega) g1 g2 g3 g4 g5
    rw [hll]at this; exact this
 case bptr s i n e j=>
  cases hg:hget h s i with
  | none=>simp [hg]at hc
  | some B=>
   simp only [hg]at hc ⊢
   obtain⟨hn,hcl,hne⟩:=hc
   obtain⟨a,rfl,hN,hn',hv⟩:=hr.bptr_inv
   have hb:=hI.blk s i B hg
   have hv':=hv (by rw [hb.hlen]; exact hn)
   rw [hb.hz]at hv'
   subst hv'
   rcases hb.mem with⟨_,h2⟩|⟨arr,cap,h1,h2,h3,h4,h5,h6,h7,h8⟩
   ·exact absurd h2 hne
   ·obtain⟨g1,g2,g3,g4,g5⟩:=lent_block hm hgs hI hg hcl h1 h2 h6 (hat s i B rfl hg).2 ((hat s i B rfl hg).1 (by unfold Hd.real; rw [h2]; simp) h7)
    have:=PV.ip (w:=w) (A:=A') B.z (lendB g B).2 e j _ (X.D s i).o _ g1 g2 g3 g4 g5
    exact this
 case osl s i n off len cap=>
  cases hg:hget h s i with
  | none=>simp [hg]at hc
  | some B=>
   simp only [hg]at hc ⊢
   obtain⟨hn,hl,hcl,hcp⟩:=hc
   obtain⟨a,c',rfl,hcc,hN,hn',hv⟩:=hr.osl_inv
   have hb:=hI.blk s i B hg
   have hv':=(hv (by rw [hb.hlen]; exact hn)).1
   rw [hb.hz]at hv'
   subst hv'
   have hll:=lendB_len g B
   have hlen:(((lendB g B).2.drop off).take len).length=len:=by simp; omega
   by_cases h0:len=0
   ·have:((lendB g B).2.drop off).take len=[]:=List.eq_nil_of_length_eq_zero (by omega)
    rw [this,h0]; exact .sl0 _ _ _
   rcases hb.mem with⟨_,h2⟩|⟨arr,cap',h1,h2,h3,h4,h5,h6,h7,h8⟩
   ·rw [h2]at hl; simp at hl; omega
   ·obtain⟨g1,g2,g3,g4,g5⟩:=lent_block hm hgs hI hg hcl h1 h2 h6 (hat s i B rfl hg).2 ((hat s i B rfl hg).1 (by unfold Hd.real; rw [h2]; simp) h7)
    have get:∀(e:Nat) (row:List V),(((lendB g B).2.drop off).take len)[e]?=some row→(lendB g B).2[off+e]?=some row:=by
     intro e row he
     have hlt:e<len:=by have:=(List.getElem?_eq_some_iff.1 he).1; omega
     rw [List.getElem?_take_of_lt hlt,List.getElem?_drop]at he
     exact he
    have:=PV.sl (w:=w) (A:=A') B.z (((lendB g B).2.drop off).take len) (X.D s i).b ((X.D s i).o+off * B.z) c' (fun e j=>(w.cell? ⟨(X.D s i).b,(X.D s i).o+(off+e) * B.z+j,none⟩).getD und) (by omega) g1 g2 (fun row hr=>g3 row (List.mem_of_mem_drop (List.mem_of_mem_take hr)))
     (fun e j row c he hj=>by
      have:=g4 _ j row c (get e row he) hj
      rw [show(X.D s i).o+off * B.z+e * B.z+j=(X.D s i).o+(off+e) * B.z+j by rw [Nat.add_mul]; omega]; exact this)
     (fun e j row c he hj=>g5 _ j row c (get e row he) hj)
    rw [hlen]at this; exact this
 all_goals exact hm _ _ (PV.of_refFree1 hr rfl)
omit [Gls]in
theorem lent_at {x:V}:∀s i B,x.at?=some (s,i)→hget h s i=some B→((X.D s i).real→(B.fz=true→¬ A (X.D s i).b)→¬ lentA A X h (X.D s i).b)∧(B.cl=false→∀row∈B.els,∀c∈row,True):=by
 intro s i B _ hg
 refine⟨fun hr h7=>?_,fun _ _ _ _ _=>trivial⟩
 rintro⟨ha,hno⟩
 cases hfz:B.fz with
 | true=>exact h7 hfz ha
 | false=>exact hno ⟨s,i,B,hg,hfz,hr,rfl⟩
theorem lendN_sound (hI:Inv F w A X h):∀(f:Nat) (x:V) (u:Value),RV w A X x u→(lendN f h x).1→¬ (∃cs,x=.agg cs)∧¬ (∃cs,x=.tup cs)∧¬ (∃f c cs,x=.fn f (c::cs))→PV w (lentA A X h) (lendN f h x).2 u
 | 0,x,u,hr,hc,hs=>by
  refine lendX_sound (G:=fun _=>True) (g:=fun _=>(False,.top)) (fun x u=>PV.lent) (fun x u _ hf=>hf.elim) hI hr (lent_at (h:=h)) hs (y:=lendN 0 h x) ?_ hc
  cases x<;>simp only [lendN]
  all_goals
   cases hg:hget h _ _ with
   | none=>rfl
   | some B=>
    simp only [lendB]
    cases hcl:B.cl with
    | true=>simp
    | false=>
     simp only [lendN,hg,hcl]at hc
     simp at hc
 | f+1,x,u,hr,hc,hs=>by
  refine lendX_sound (G:=fun _=>True) (g:=lendN f h) (fun x u=>PV.lent) (fun x u hx hf hl _=>lendN_sound hI f x u hx hf (leaf_shape hl)) hI hr (lent_at (h:=h)) hs (y:=lendN (f+1) h x) ?_ hc
  cases x<;>simp only [lendN]
  all_goals (cases hget h _ _<;>rfl)
omit [Gls]in
theorem fzCs_mem {g:V→Prop}:∀{cs:List V},fzCs g cs→∀c∈cs,g c
 | [],_,c,hc=>by simp at hc
 | x::cs,h,c,hc=>by
  rcases List.mem_cons.1 hc with rfl|hc
  ·exact h.1
  ·exact fzCs_mem h.2 c hc
omit [Gls]in
theorem fzRs_mem {g:V→Prop}:∀{rs:List (List V)},fzRs g rs→∀r∈rs,∀c∈r,g c
 | [],_,r,hr=>by simp at hr
 | x::rs,h,r,hr=>by
  rcases List.mem_cons.1 hr with rfl|hr
  ·exact fzCs_mem h.1
  ·exact fzRs_mem h.2 r hr
theorem fzN_sound (hI:Inv F w A X h):∀(f:Nat) (x:V) (u:Value),RV w A X x u→(lendN f h x).1→fzN f h x→¬ (∃cs,x=.agg cs)∧¬ (∃cs,x=.tup cs)∧¬ (∃f c cs,x=.fn f (c::cs))→PV w A (lendN f h x).2 u
 | 0,x,u,hr,hc,hz,hs=>by
  refine lendX_sound (G:=fun _=>True) (g:=fun _=>(False,.top)) (fun _ _ h=>h) (fun x u _ hf=>hf.elim) hI hr (fun s i B ha hg=>by
   simp only [fzN,ha,hg]at hz
   exact⟨fun _ h7=>h7 hz,fun _ _ _ _ _=>trivial⟩) hs (y:=lendN 0 h x) ?_ hc
  cases x<;>simp only [lendN]
  all_goals
   cases hg:hget h _ _ with
   | none=>rfl
   | some B=>
    simp only [lendB]
    cases hcl:B.cl with
    | true=>simp
    | false=>
     simp only [lendN,hg,hcl]at hc
     simp at hc
 | f+1,x,u,hr,hc,hz,hs=>by
  refine lendX_sound (G:=fzN f h) (g:=lendN f h) (fun _ _ h=>h) (fun x u hx hf hl hG=>fzN_sound hI f x u hx hf hG (leaf_shape hl)) hI hr (fun s i B ha hg=>by
   simp only [fzN,ha,hg]at hz
   refine⟨fun _ h7=>h7 hz.1,fun hcl row hrow c hc=>?_⟩
   exact fzRs_mem (hz.2.resolve_left (by simp [hcl])) row hrow c hc) hs (y:=lendN (f+1) h x) ?_ hc
  cases x<;>simp only [lendN]
  all_goals (cases hget h _ _<;>rfl)
theorem lend1_sound (hI:Inv F w A X h) {x:V} {u:Value} (hr:RV w A X x u) (hc:(lend1 h x).1) (hshape:¬ (∃cs,x=.agg cs)∧¬ (∃cs,x=.tup cs)∧¬ (∃f c cs,x=.fn f (c::cs))):PV w (lentA A X h) (lend1 h x).2 u:=
 lendN_sound hI 3 x u hr hc hshape
omit [Gls]in
theorem lends1_get (h:Hp):∀(cs:List V) (i:Nat) (c:V),(lends1 h cs).2[i]?=some c→∃x,cs[i]?=some x∧(lend1 h x).2=c
 | [],i,c,hc=>by simp [lends1]at hc
 | x::cs,0,c,hc=>by simp [lends1]at hc; exact⟨x,rfl,hc⟩
 | x::cs,i+1,c,hc=>by simp only [lends1,List.getElem?_cons_succ]at hc ⊢; exact lends1_get h cs i c hc
omit [Gls]in
theorem lends1_len (h:Hp):∀(cs:List V),(lends1 h cs).2.length=cs.length
 | []=>rfl
 | x::cs=>by simp [lends1,lends1_len h cs]
omit [Gls]in
theorem lends1_cond (h:Hp):∀(cs:List V),(lends1 h cs).1→∀x∈cs,(lend1 h x).1
 | [],_,x,hx=>by simp at hx
 | y::cs,hc,x,hx=>by
  rcases List.mem_cons.1 hx with rfl|hx
  ·exact hc.1
  ·exact lends1_cond h cs hc.2 x hx
omit [Gls]in
theorem lends_get (h:Hp):∀(cs:List V) (i:Nat) (c:V),(lends h cs).2[i]?=some c→∃x,cs[i]?=some x∧(lend h x).2=c
 | [],i,c,hc=>by simp [lends]at hc
 | x::cs,0,c,hc=>by simp [lends]at hc; exact⟨x,rfl,hc⟩
 | x::cs,i+1,c,hc=>by simp only [lends,List.getElem?_cons_succ]at hc ⊢; exact lends_get h cs i c hc
omit [Gls]in
theorem lends_len (h:Hp):∀(cs:List V),(lends h cs).2.length=cs.length
 | []=>rfl
 | x::cs=>by simp [lends,lends_len h cs]
omit [Gls]in
theorem lends_cond (h:Hp):∀(cs:List V),(lends h cs).1→∀x∈cs,(lend h x).1
 | [],_,x,hx=>by simp at hx
 | y::cs,hc,x,hx=>by
  rcases List.mem_cons.1 hx with rfl|hx
  ·exact hc.1
  ·exact lends_cond h cs hc.2 x hx
theorem lend_sound (hI:Inv F w A X h) {x:V} {u:Value} (hr:RV w A X x u) (hc:(lend h x).1) (hshape:x.argOk=true):PV w (lentA A X h) (lend h x).2 u:=by
 unfold V.argOk at hshape
 cases x with
 | agg cs=>
  obtain⟨us,rfl,hl,hcs⟩:=hr.agg_inv
  simp only [lend]at hc ⊢
  simp only [List.all_eq_true]at hshape
  refine .agg _ us (by rw [hl,lends1_len]) fun i c hi=>?_
  obtain⟨x,hx,rfl⟩:=lends1_get h cs i c hi
  exact lend1_sound hI (hcs i x hx) (lends1_cond h cs hc x (List.mem_of_getElem? hx)) (leaf_shape (hshape x (List.mem_of_getElem? hx)))
 | fn f cs=>
  obtain⟨us,rfl,hl,hcs⟩:=hr.fn_inv
  simp only [lend]at hc ⊢
  simp only [List.all_eq_true]at hshape
  refine .fn f _ us (by rw [hl,lends1_len]) fun i c hi=>?_
  obtain⟨x,hx,rfl⟩:=lends1_get h cs i c hi
  exact lend1_sound hI (hcs i x hx) (lends1_cond h cs hc x (List.mem_of_getElem? hx)) (leaf_shape (hshape x (List.mem_of_getElem? hx)))
 | tup cs=>simp at hshape
 | _=>exact lend1_sound hI hr hc ⟨(by rintro⟨cs,hh⟩; cases hh),(by rintro⟨cs,hh⟩; cases hh),(by rintro⟨f,c,cs,hh⟩; cases hh)⟩
theorem fzA_sound (hI:Inv F w A X h) {x:V} {u:Value} (hr:RV w A X x u) (hc:(lend h x).1) (hz:fzA h x) (hshape:x.argOk=true):PV w A (lend h x).2 u:=by
 unfold V.argOk at hshape
 cases x with
 | agg cs=>
  obtain⟨us,rfl,hl,hcs⟩:=hr.agg_inv
  simp only [lend]at hc ⊢
  simp only [fzA]at hz
  simp only [List.all_eq_true]at hshape
  refine .agg _ us (by rw [hl,lends1_len]) fun i c hi=>?_
  obtain⟨x,hx,rfl⟩:=lends1_get h cs i c hi
  exact fzN_sound hI 3 x _ (hcs i x hx) (lends1_cond h cs hc x (List.mem_of_getElem? hx)) (fzCs_mem hz x (List.mem_of_getElem? hx)) (leaf_shape (hshape x (List.mem_of_getElem? hx)))
 | fn f cs=>
  obtain⟨us,rfl,hl,hcs⟩:=hr.fn_inv
  simp only [lend]at hc ⊢
  simp only [fzA]at hz
  simp only [List.all_eq_true]at hshape
  refine .fn f _ us (by rw [hl,lends1_len]) fun i c hi=>?_
  obtain⟨x,hx,rfl⟩:=lends1_get h cs i c hi
  exact fzN_sound hI 3 x _ (hcs i x hx) (lends1_cond h cs hc x (List.mem_of_getElem? hx)) (fzCs_mem hz x (List.mem_of_getElem? hx)) (leaf_shape (hshape x (List.mem_of_getElem? hx)))
 | tup cs=>simp at hshape
 | _=>exact fzN_sound hI 3 _ _ hr hc hz ⟨(by rintro⟨cs,hh⟩; cases hh),(by rintro⟨cs,hh⟩; cases hh),(by rintro⟨f,c,cs,hh⟩; cases hh)⟩
omit [Gls]in
theorem sub0_sound {x y:V} {u:Value} (hs:sub0 x y) (hr:PV w A x u):PV w A y u:=by
 unfold sub0 at hs
 split at hs
 ·exact .top u
 ·cases hr; exact .sl0 _ _ _
 ·cases hr; exact .sl0 _ _ _
 ·subst hs; exact hr
omit [Gls]in
theorem subs0_sound:∀(xs ys:List V),subs0 xs ys→xs.length=ys.length∧∀(i:Nat) (y:V),ys[i]?=some y→∃x,xs[i]?=some x∧sub0 x y
 | [],[],_=>⟨rfl,fun i y hy=>by simp at hy⟩
 | [],_::_,hs=>hs.elim
 | _::_,[],hs=>hs.elim
 | x::xs,y::ys,hs=>by
  obtain⟨h1,h2⟩:=subs0_sound xs ys hs.2
  refine⟨by simp [h1],fun i y' hy=>?_⟩
  cases i with
  | zero=>simp at hy; subst hy; exact⟨x,rfl,hs.1⟩
  | succ i=>simpa using h2 i y' (by simpa using hy)
omit [Gls]in
theorem sub1_sound {x y:V} {u:Value} (hs:sub1 x y) (hr:PV w A x u):PV w A y u:=by
 unfold sub1 at hs
 split at hs
 ·rename_i xs ys
  obtain⟨hl,hg⟩:=subs0_sound xs ys hs
  cases hr with
  | agg _ us hl' hc=>
   refine .agg ys us (by omega) fun i c hi=>?_
   obtain⟨x,hx,hsub⟩:=hg i c hi
   exact sub0_sound hsub (hc i x hx)
 ·exact sub0_sound hs hr
omit [Gls]in
theorem subs1_sound:∀(xs ys:List V),subs1 xs ys→xs.length=ys.length∧∀(i:Nat) (y:V),ys[i]?=some y→∃x,xs[i]?=some x∧sub1 x y
 | [],[],_=>⟨rfl,fun i y hy=>by simp at hy⟩
 | [],_::_,hs=>hs.elim
 | _::_,[],hs=>hs.elim
 | x::xs,y::ys,hs=>by
  obtain⟨h1,h2⟩:=subs1_sound xs ys hs.2
  refine⟨by simp [h1],fun i y' hy=>?_⟩
  cases i with
  | zero=>simp at hy; subst hy; exact⟨x,rfl,hs.1⟩
  | succ i=>simpa using h2 i y' (by simpa using hy)
omit [Gls]in
theorem sub_sound {x y:V} {u:Value} (hs:sub x y) (hr:PV w A x u):PV w A y u:=by
 unfold sub at hs
 split at hs
 ·rename_i xs ys
  obtain⟨hl,hg⟩:=subs1_sound xs ys hs
  cases hr with
  | tup _ us hl' hc=>
   refine .tup ys us (by omega) fun i c hi=>?_
   obtain⟨x,hx,hsub⟩:=hg i c hi
   exact sub1_sound hsub (hc i x hx)
 ·exact sub1_sound hs hr
omit [Gls]in
theorem sub0_soundR {x y:V} {u:Value} (hs:sub0 x y) (hr:RV w A X x u):RV w A X y u:=by
 unfold sub0 at hs
 split at hs
 ·exact .pure (.top u)
 ·rw [hr.nil_inv]; exact .pure (.sl0 _ _ _)
 ·obtain⟨a,rfl⟩:=hr.emp_inv; exact .pure (.sl0 _ _ _)
 ·subst hs; exact hr
omit [Gls]in
theorem sub1_soundR {x y:V} {u:Value} (hs:sub1 x y) (hr:RV w A X x u):RV w A X y u:=by
 unfold sub1 at hs
 split at hs
 ·rename_i xs ys
  obtain⟨hl,hg⟩:=subs0_sound xs ys hs
  obtain⟨us,rfl,hl',hc⟩:=hr.agg_inv
  refine .agg ys us (by omega) fun i c hi=>?_
  obtain⟨x,hx,hsub⟩:=hg i c hi
  exact sub0_soundR hsub (hc i x hx)
 ·exact sub0_soundR hs hr
omit [Gls]in
theorem sub_soundR {x y:V} {u:Value} (hs:sub x y) (hr:RV w A X x u):RV w A X y u:=by
 unfold sub at hs
 split at hs
 ·rename_i xs ys
  obtain⟨hl,hg⟩:=subs1_sound xs ys hs
  obtain⟨us,rfl,hl',hc⟩:=hr.tup_inv
  refine .tup ys us (by omega) fun i c hi=>?_
  obtain⟨x,hx,hsub⟩:=hg i c hi
  exact sub1_soundR hsub (hc i x hx)
 ·exact sub1_soundR hs hr
omit [Gls]in
theorem scal1_any {A':Nat→Prop} {x:V} {u:Value} (hs:x.scal1=true) (hr:PV w A x u):PV w A' x u:=by
 cases hr<;>simp [V.scal1]at hs
 ·exact .int _ _
 ·exact .bool _
 ·exact .nil
 ·exact .nilp
 ·exact .nilf
omit [Gls]in
theorem scal_any {A':Nat→Prop} {x:V} {u:Value} (hs:x.scal=true) (hr:PV w A x u):PV w A' x u:=by
 cases x with
 | tup cs=>
  simp only [V.scal,List.all_eq_true]at hs
  cases hr with
  | tup _ us hl hc=>exact .tup cs us hl fun i c hi=>scal1_any (hs c (List.mem_of_getElem? hi)) (hc i c hi)
 | agg cs=>
  simp only [V.scal,List.all_eq_true]at hs
  cases hr with
  | agg _ us hl hc=>exact .agg cs us hl fun i c hi=>scal1_any (hs c (List.mem_of_getElem? hi)) (hc i c hi)
 | _=>exact scal1_any hs hr
omit [Gls]in
theorem lend1_refFree (h:Hp) {x:V} (hx:x.refFree1=true):lend1 h x=(True,x):=by
 cases x<;>simp_all [V.refFree1,lend1,lendN]
omit [Gls]in
theorem lends1_refFree (h:Hp):∀(cs:List V),cs.all V.refFree1=true→(lends1 h cs).2=cs
 | [],_=>rfl
 | x::cs,hc=>by
  simp only [List.all_cons,Bool.and_eq_true]at hc
  simp [lends1,lend1_refFree h hc.1,lends1_refFree h cs hc.2]
omit [Gls]in
theorem lend_refFree (h:Hp) {x:V} (hx:x.refFree=true):(lend h x).2=x:=by
 cases x with
 | agg cs=>simp only [lend,lends1_refFree h cs hx]
 | fn f cs=>simp only [lend,lends1_refFree h cs hx]
 | tup cs=>rfl
 | _=>simp_all [V.refFree,V.refFree1,lend,lend1,lendN]
theorem call_pure {g:FuncId} {S:PSpec} (hS:PureOK P g S) (hI:Inv F w A X h) {args:List V} {vals:Array Value} (hsz:vals.size=args.length) (hargs:∀(i:Nat) (c:V),args[i]?=some c→RV w A X c (vals.getD i und))
  (hshape:args.all V.argOk=true) (hc:(lends h args).1) (hsub:subs1 (lends h args).2 (S.enc (S.dec (lends h args).2))) (hpre:S.pre (S.dec (lends h args).2)) (hmode:args.all V.refFree=true∨(S.res (S.dec (lends h args).2)).scal=true∨fzCs (fzA h) args) :
  Calls P g vals w fun e w'=>∃v,e=.returned v∧Later w A w' A∧Inv F w' A X h∧RV w' A X (S.res (S.dec (lends h args).2)) v:=by
 obtain⟨hl,hget⟩:=subs1_sound _ _ hsub
 rw [lends_len]at hl
 simp only [List.all_eq_true]at hshape
 by_cases hrf:args.all V.refFree=true
 ·simp only [List.all_eq_true]at hrf
  refine(hS _ hpre w A vals hI.gl hI.abd (by omega) fun i c hi=>?_).mono fun e w' ⟨v,he,hb,hv⟩=>?_
  ·obtain⟨x,hx,hs⟩:=hget i c hi
   obtain⟨y,hy,rfl⟩:=lends_get h args i x hx
   have hm:=List.mem_of_getElem? hy
   rw [lend_refFree h (hrf y hm)]at hs
   exact sub1_sound hs (.of_refFree (hargs i y hy) (hrf y hm))
  ·obtain⟨hL,hI'⟩:=hI.below hb
   exact⟨v,he,hL,hI',.pure hv⟩
 ·rcases hmode.resolve_left hrf with hsc|hz
  case inr=>
   refine(hS _ hpre w A vals hI.gl hI.abd (by omega) fun i c hi=>?_).mono fun e w' ⟨v,he,hb,hv⟩=>?_
   ·obtain⟨x,hx,hs⟩:=hget i c hi
    obtain⟨y,hy,rfl⟩:=lends_get h args i x hx
    have hm:=List.mem_of_getElem? hy
    exact sub1_sound hs (fzA_sound hI (hargs i y hy) (lends_cond h args hc y hm) (fzCs_mem hz y hm) (hshape y hm))
   ·obtain⟨hL,hI'⟩:=hI.below hb
    exact⟨v,he,hL,hI',.pure hv⟩
  refine(hS _ hpre w (lentA A X h) vals (fun g v hg=>(hI.gl g v hg).lent) (fun b hb=>hI.abd b hb.1) (by omega) fun i c hi=>?_).mono fun e w' ⟨v,he,hb,hv⟩=>?_
  ·obtain⟨x,hx,hs⟩:=hget i c hi
   obtain⟨y,hy,rfl⟩:=lends_get h args i x hx
   have hm:=List.mem_of_getElem? hy
   exact sub1_sound hs (lend_sound hI (hargs i y hy) (lends_cond h args hc y hm) (hshape y hm))
  ·obtain⟨hL,hI'⟩:=hI.below hb
   exact⟨v,he,hL,hI',.pure (scal_any hsc hv)⟩
theorem Inv.back (hI:Inv F w A X h) {w':World} {A':Nat→Prop} {X':Refs} {h':Hp} (hI':Inv ⟨w,A,X,ownM X h⟩ w' A' X' h'):Later w A w' A'∧Xle X X'∧Inv F w' A' X' h':=by
 have hown:∀b,ownM X h b→A b∧(F.M b∨F.w0.heap.size≤b):=by
  rintro b ⟨s,i,B,hg,hfz,hreal,rfl⟩
  rcases(hI.blk s i B hg).mem with hm|⟨arr,cap,_,_,_,_,_,_,_,h8⟩
  ·exact absurd hm.1 hreal
  ·exact h8 hfz
 refine⟨⟨hI'.size,fun b hlt hA=>⟨hI'.same b hlt fun hM=>hA (hown b hM).1,fun hh=>hA (hI'.aold b hlt hh)⟩⟩,hI'.xle,{gl:=hI'.gl,abd:=hI'.abd,aold:=?_,akeep:=?_,os:=hI'.os.trans hI.os,tape:=hI'.tape.trans hI.tape,output:=hI'.output.trans hI.output,size:=Nat.le_trans hI.size hI'.size,same:=?_,xle:=hI.xle.trans hI'.xle,nb:=hI'.nb,blk:=?_,inj:=hI'.inj}⟩
 ·intro b hlt hA
  have h1:=hI.size
  exact hI.aold b hlt (hI'.aold b (by show b<w.heap.size; omega) hA)
 ·intro b hlt hA0 hM
  have h1:=hI.size
  exact hI'.akeep b (by show b<w.heap.size; omega) (hI.akeep b hlt hA0 hM) fun hh=>by rcases(hown b hh).2 with h2|h2; exact hM h2; omega
 ·intro b hlt hM
  have h1:=hI.size
  rw [hI'.same b (by show b<w.heap.size; omega) fun hh=>by rcases(hown b hh).2 with h2|h2; exact hM h2; omega]
  exact hI.same b hlt hM
 ·intro s i B hB
  have ho:=hI'.blk s i B hB
  refine {hN:=ho.hN,hz:=ho.hz,hlen:=ho.hlen,rows:=ho.rows,mem:=?_}
  rcases ho.mem with hm|⟨arr,cap,h1,h2,h3,h4,h5,h6,h7,h8⟩
  ·exact .inl hm
  ·refine .inr ⟨arr,cap,h1,h2,h3,h4,h5,h6,h7,fun hf=>⟨(h8 hf).1,?_⟩⟩
   rcases(h8 hf).2 with h9|h9
   ·exact(hown _ h9).2
   ·right; have:=hI.size; have h9':w.heap.size≤(X'.D s i).b:=h9; omega
end
section freeze
variable {F:Fr} {w:World} {A:Nat→Prop} {X:Refs} {h:Hp}
theorem Inv.freezeT (hI:Inv F w A X h) (T:Nat→Nat→Bool) {h':Hp} (hg:∀s i,hget h' s i=(hget h s i).map fun B=>if T s i then {B with fz:=true}else B) (hn:∀s,hnext h' s=hnext h s):∃A',Later w A w A'∧Inv F w A' X h':=by
 let A':Nat→Prop:=fun b=>A b∧¬ ∃s i B,hget h s i=some B∧T s i=true∧(X.D s i).real∧(X.D s i).b=b
 have hL:Later w A w A':=⟨Nat.le_refl _,fun b _ hA=>⟨rfl,fun hh=>hA hh.1⟩⟩
 have get:∀{s i B'},hget h' s i=some B'→∃B,hget h s i=some B∧B'=if T s i then {B with fz:=true}else B:=by
  intro s i B' hB'
  rw [hg]at hB'
  cases hB:hget h s i with
  | none=>rw [hB]at hB'; cases hB'
  | some B=>rw [hB]at hB'; exact⟨B,rfl,(Option.some.inj hB').symm⟩
 refine⟨A',hL,{gl:=hI.gl.mono hL,abd:=fun b hA=>hI.abd b hA.1,aold:=fun b hlt hA=>hI.aold b hlt hA.1,akeep:=?_,os:=hI.os,tape:=hI.tape,output:=hI.output,size:=hI.size,same:=hI.same,xle:=hI.xle,nb:=fun s'=>by rw [hn]; exact hI.nb s',blk:=?_,inj:=?_}⟩
 ·intro b hlt hA0 hM
  have hAb:=hI.akeep b hlt hA0 hM
  refine⟨hAb,?_⟩
  rintro⟨s,i,B,hB,hT,hreal,rfl⟩
  rcases(hI.blk s i B hB).mem with⟨k1,_⟩|⟨arr,cap,m1,m2,m3,m4,m5,m6,m7,m8⟩
  ·exact hreal k1
  ·cases hfz:B.fz with
   | true=>exact m7 hfz hAb
   | false => rcases (m8 hfz).2 with h | h
              · exact hM h
              · omega
 ·intro s i B' hB'
  obtain⟨B,hB,rfl⟩:=get hB'
  have ho:=hI.blk s i B hB
  have e1:(if T s i then {B with fz:=true}else B).z=B.z:=by split<;>rfl
  have e2:(if T s i then {B with fz:=true}else B).els=B.els:=by split<;>rfl
  have e3:(if T s i then {B with fz:=true}else B).ty=B.ty:=by split<;>rfl
  have e4:(if T s i then {B with fz:=true}else B).cl=B.cl:=by split<;>rfl
  refine {hN:=ho.hN,hz:=by rw [e1]; exact ho.hz,hlen:=by rw [e2]; exact ho.hlen,rows:=by rw [e1,e2]; exact ho.rows,mem:=?_}
  rw [e1,e2,e3,e4]
  rcases ho.mem with hm|⟨arr,cap,k1,k2,k3,k4,k5,k6,k7,k8⟩
  ·exact .inl hm
  ·have hr:(X.D s i).real:=by unfold Hd.real; rw [k2]; simp
   refine .inr ⟨arr,cap,k1,k2,k3,k4,k5,?_,?_,?_⟩
   ·intro e j row c he hj
    obtain⟨u,g1,g2,g3,g4⟩:=k6 e j row c he hj
    exact⟨u,g1,g2,g3.mono hL (Xle.refl X),fun hcl=>(g4 hcl).mono hL⟩
   ·intro hf hh
    cases hT:T s i with
    | true=>exact hh.2 ⟨s,i,B,hB,hT,hr,rfl⟩
    | false=>rw [hT]at hf; exact k7 hf hh.1
   ·intro hf
    cases hT:T s i with
    | true=>rw [hT]at hf; cases hf
    | false=>
     rw [hT]at hf
     refine⟨⟨(k8 hf).1,?_⟩,(k8 hf).2⟩
     rintro⟨s1,i1,B1,hB1,hT1,hr1,hb1⟩
     obtain⟨rfl,rfl⟩:=hI.inj s1 i1 B1 s i B hB1 hB hr1 hr hb1
     rw [hT]at hT1; cases hT1
 ·intro s1 i1 B1 s2 i2 B2 h1 h2 hr1 hr2 hbb
  obtain⟨C1,c1,_⟩:=get h1
  obtain⟨C2,c2,_⟩:=get h2
  exact hI.inj s1 i1 C1 s2 i2 C2 c1 c2 hr1 hr2 hbb
theorem Inv.freeze (hI:Inv F w A X h) {s i:Nat} {B:Blk} (hB:hget h s i=some B):∃A',Later w A w A'∧Inv F w A' X (hset h s i {B with fz:=true}):=by
 refine hI.freezeT (fun s' i'=>decide (s'=s∧i'=i)) (fun s' i'=>?_) (fun s'=>hnext_set ..)
 by_cases heq:s'=s∧i'=i
 ·obtain⟨rfl,rfl⟩:=heq
  rw [hget_set_same hB,hB]; simp
 ·rw [hget_set_other h _ heq (hget_base hB)]
  cases hget h s' i'<;>simp [heq]
theorem Inv.freezeH (hI:Inv F w A X h) (s:Nat):∃A',Later w A w A'∧Inv F w A' X (frzH h s):=by
 refine hI.freezeT (fun s' _=>decide (s'=s)) (fun s' i'=>?_) (fun s'=>?_)
 ·unfold hget frzH
  by_cases hs:s'=s
  ·subst hs
   simp only [if_true,decide_true,List.getElem?_map]
   split<;>rfl
  ·simp only [hs,if_false,decide_false]
   split
   ·rfl
   ·simp
 ·unfold hnext frzH
  by_cases hs:s'=s
  ·subst hs; simp
  ·simp [hs]
end freeze
theorem Inv.freezeHs {F:Fr} {w:World} {X:Refs}:∀(L:List Nat) {A:Nat→Prop} {h:Hp},Inv F w A X h→∃A',Later w A w A'∧Inv F w A' X (frzHs L h)
 | [],A,h,hI=>⟨A,Later.refl w A,hI⟩
 | s::r,A,h,hI=>by
  obtain⟨A1,h1,h2⟩:=hI.freezeH s
  obtain⟨A2,h3,h4⟩:=Inv.freezeHs r h2
  exact⟨A2,h1.trans h3,h4⟩
theorem Inv.preZ {F:Fr} {w:World} {X:Refs} {A:Nat→Prop} {h:Hp} (hI:Inv F w A X h) (E:Env) (d:Nat) (f:V):∃A',Later w A w A'∧Inv F w A' X (preZ E d f h):=by
 unfold Sx.preZ
 split
 ·split
  ·exact Inv.freezeHs _ hI
  ·exact⟨A,Later.refl w A,hI⟩
 ·exact⟨A,Later.refl w A,hI⟩
end Go.Sx
end
end
