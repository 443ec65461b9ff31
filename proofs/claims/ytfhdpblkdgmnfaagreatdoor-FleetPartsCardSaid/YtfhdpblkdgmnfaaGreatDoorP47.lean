/- A part of a proof; no conditions. -/
import Derived.SizedLaws
import Derived.Test.YtfhdpblkdgmnfaaGreatDoorP07
import Derived.ProofKit
import Derived.LaidMore
import Derived.OpenShut
import Derived.Test.YtfhdpblkdgmnfaaGreatDoorP38
set_option linter.unusedSimpArgs false
set_option linter.unusedVariables false
set_option linter.unusedSectionVars false
set_option maxRecDepth 100000
set_option maxHeartbeats 8000000
noncomputable section
section
namespace Go.Sx
open Go.RowKit
variable [Gls]
def tiles (P:Program):List Field→Nat→Nat→Bool
 | [],o,n=>o == n
 | fl::r,o,n=>fl.offset == o && tiles P r (o+P.cellsOf fl.type) n
def plain (P:Program):Nat→TypeId→Bool
 | 0,_=>false
 | f+1,t=>match P.underlying t with
  | some .bool=>true
  | some (.int _)=>true
  | some (.slice e)=>decide (0<P.cellsOf e) && plain P f e
  | some (.struct fs)=>tiles P fs.toList 0 (P.cellsOf t) && fs.toList.all fun fl=>plain P f fl.type
  | some (.array n e)=>decide (n * P.cellsOf e=P.cellsOf t) && plain P f e
  | _=>false
def tyV (P:Program):Nat→TypeId→List V→Prop
 | 0,_,_=>False
 | f+1,t,vs=>match P.underlying t with
  | some .bool=>∃b,vs=[.bool b]
  | some (.int k)=>∃n,vs=[.int k n]∧(Lit.int k n).wf=true
  | some (.slice e)=>∃els,vs=[.sl (P.cellsOf e) els]∧els.length≤maxLen∧els.length * P.bytesOf e≤reachBytes∧∀row∈els,tyV P f e row
  | some (.struct fs)=>vs.length=P.cellsOf t∧∀fl∈fs.toList,tyV P f fl.type ((vs.drop fl.offset).take (P.cellsOf fl.type))
  | some (.array n e)=>vs.length=P.cellsOf t∧∀i,i<n→tyV P f e ((vs.drop (i * P.cellsOf e)).take (P.cellsOf e))
  | _=>False
def CV (w:World) (vs:List V) (cs:List Value):Prop:=vs.length=cs.length∧∀i c,vs[i]?=some c→PV w (fun _=>False) c (cs.getD i und)∧(cs.getD i und).oneCell'=true
omit [Gls]in
theorem CV.nil (w:World):CV w [] []:=⟨rfl,fun i c h=>by simp at h⟩
omit [Gls]in
theorem CV.append {w:World} {a b:List V} {x y:List Value} (h:CV w a x) (k:CV w b y):CV w (a++b) (x++y):=by
 refine⟨by simp [h.1,k.1],fun i c hc=>?_⟩
 rw [List.getElem?_append]at hc
 split at hc
 ·rename_i hi
  have:=h.2 i c hc
  rw [List.getD_eq_getElem?_getD,List.getElem?_append_left (by rw [←h.1]; exact hi),←List.getD_eq_getElem?_getD]
  exact this
 ·rename_i hi
  have:=k.2 _ c hc
  rw [List.getD_eq_getElem?_getD,List.getElem?_append_right (by rw [←h.1]; omega),←h.1,←List.getD_eq_getElem?_getD]
  exact this
omit [Gls]in
theorem CV.one {w:World} {x:V} {v:Value} (h:PV w (fun _=>False) x v) (h1:v.oneCell'=true):CV w [x] [v]:=by
 refine⟨rfl,fun i c hc=>?_⟩
 cases i with
 | zero=>simp at hc; subst hc; exact⟨h,h1⟩
 | succ i=>simp at hc
omit [Gls]in
theorem mapM_all {α β:Type} {f:α→Option β}:∀{l:List α} {ys:List β},l.mapM f=some ys→∀x∈l,∃y,f x=some y
 | [],_,_,x,hx=>by simp at hx
 | a::l,ys,h,x,hx=>by
  rw [List.mapM_cons]at h
  cases ha:f a with
  | none=>simp [ha]at h
  | some b=>
   simp only [ha,Option.bind_eq_bind,Option.bind_some]at h
   cases hl:l.mapM f with
   | none=>simp [hl]at h
   | some bs=>
    rcases List.mem_cons.1 hx with rfl|hx
    ·exact⟨b,ha⟩
    ·exact mapM_all hl x hx
def wOK {H:Type} (P:Program) (t:TypeId) (d:DataW H):Prop:=∀n∈d.weights P t,n≤reachBytes
omit [Gls]in
theorem wOK_each {α H:Type} {P:Program} {f:α→Option (DataW H × List MemPlace)} {ty:α→TypeId}:∀{l:List α} {ys:List (DataW H × List MemPlace)},l.mapM f=some ys→(∀n∈DataW.weightsEach P (l.map ty) (ys.map (·.1)),n≤reachBytes)→∀x∈l,∃y,f x=some y∧wOK P (ty x) y.1
 | [],_,_,_,x,hx=>by simp at hx
 | a::l,ys,h,hw,x,hx=>by
  rw [List.mapM_cons]at h
  cases ha:f a with
  | none=>simp [ha]at h
  | some b=>
   simp only [ha,Option.bind_eq_bind,Option.bind_some]at h
   cases hl:l.mapM f with
   | none=>simp [hl]at h
   | some bs=>
    simp only [hl,Option.bind_some,Option.pure_def,Option.some.injEq]at h
    subst h
    simp only [List.map_cons,DataW.weightsEach,List.mem_append]at hw
    rcases List.mem_cons.1 hx with rfl|hx
    ·exact⟨b,ha,fun n hn=>hw n (.inl hn)⟩
    ·exact wOK_each hl (fun n hn=>hw n (.inr hn)) x hx
omit [Gls]in
theorem wOK_all {H:Type} {P:Program} {e:TypeId}:∀{ds:List (DataW H)},(∀n∈DataW.weightsAll P e ds,n≤reachBytes)→∀d∈ds,wOK P e d
 | [],_,d,hd=>by simp at hd
 | a::ds,hw,d,hd=>by
  simp only [DataW.weightsAll,List.mem_append]at hw
  rcases List.mem_cons.1 hd with rfl|hd
  ·exact fun n hn=>hw n (.inl hn)
  ·exact wOK_all (fun n hn=>hw n (.inr hn)) d hd
omit [Gls]in
theorem mapM_mem {α β:Type} {f:α→Option β}:∀{l:List α} {ys:List β},l.mapM f=some ys→∀x∈l,∃y∈ys,f x=some y
 | [],_,_,x,hx=>by simp at hx
 | a::l,ys,h,x,hx=>by
  rw [List.mapM_cons]at h
  cases ha:f a with
  | none=>simp [ha]at h
  | some b=>
   simp only [ha,Option.bind_eq_bind,Option.bind_some]at h
   cases hl:l.mapM f with
   | none=>simp [hl]at h
   | some bs=>
    simp only [hl,Option.bind_some,Option.pure_def,Option.some.injEq]at h
    subst h
    rcases List.mem_cons.1 hx with rfl|hx
    ·exact⟨b,by simp,ha⟩
    ·obtain⟨y,hy,e⟩:=mapM_mem hl x hx; exact⟨y,by simp [hy],e⟩
section
variable {H:Type} {enc:TypeId × Value→H} {P:Program} {w:World} {base:Nat} {spare:Nat→Bool} {held:Bool}
omit [Gls]in
theorem struct_cells {f:Nat} {cs:List Value} (ih:∀(fl:Field),plain P f fl.type=true→∀(cs:List Value),(∃fuel x,DataW.trod enc P w base spare held fuel fl.type cs=some x∧wOK P fl.type x.1)→cs.length=P.cellsOf fl.type→∃vs,CV w vs cs∧tyV P f fl.type vs) :
  ∀(fs:List Field) (o n:Nat),tiles P fs o n=true→cs.length=n→o≤n→(∀fl∈fs,plain P f fl.type=true∧∃fuel x,DataW.trod enc P w base spare held fuel fl.type ((cs.drop fl.offset).take (P.cellsOf fl.type))=some x∧wOK P fl.type x.1)→
   ∃vs,CV w vs (cs.drop o)∧(∀fl∈fs,o≤fl.offset∧tyV P f fl.type ((vs.drop (fl.offset - o)).take (P.cellsOf fl.type)))
 | [],o,n,ht,hl,ho,_=>by
  simp only [tiles,beq_iff_eq]at ht
  refine⟨[],?_,by simp⟩
  rw [List.drop_eq_nil_of_le (by omega)]
  exact .nil w
 | fl::fs,o,n,ht,hl,ho,hall=>by
  simp only [tiles,Bool.and_eq_true,beq_iff_eq]at ht
  obtain⟨rfl,ht⟩:=ht
  obtain⟨hp,hr⟩:=hall fl (by simp)
  have hle:fl.offset+P.cellsOf fl.type≤n:=by
   have:∀(fs:List Field) (o:Nat),tiles P fs o n=true→o≤n:=by
    intro fs
    induction fs with
    | nil=>intro o h; simp only [tiles,beq_iff_eq]at h; omega
    | cons g r ih2=>intro o h; simp only [tiles,Bool.and_eq_true,beq_iff_eq]at h; have:=ih2 _ h.2; omega
   exact this fs _ ht
  have hlen:((cs.drop fl.offset).take (P.cellsOf fl.type)).length=P.cellsOf fl.type:=by simp; omega
  obtain⟨v1,c1,t1⟩:=ih fl hp _ hr hlen
  obtain⟨v2,c2,t2⟩:=struct_cells ih fs _ n ht hl hle (fun g hg=>hall g (by simp [hg]))
  have hv1:v1.length=P.cellsOf fl.type:=by rw [c1.1,hlen]
  refine⟨v1++v2,?_,fun g hg=>?_⟩
  ·have:=c1.append c2
   rwa [←List.drop_drop,List.take_append_drop]at this
  ·rcases List.mem_cons.1 hg with rfl|hg
   ·refine⟨Nat.le_refl _,?_⟩
    rw [Nat.sub_self,List.drop_zero,List.take_append_of_le_length (by omega),List.take_of_length_le (by omega)]
    exact t1
   ·obtain⟨h1,h2⟩:=t2 g hg
    refine⟨by omega,?_⟩
    rw [List.drop_append,List.drop_eq_nil_of_le (by omega),List.nil_append,hv1,show g.offset - fl.offset - P.cellsOf fl.type=g.offset - (fl.offset+P.cellsOf fl.type) by omega]
    exact h2
omit [Gls]in
theorem array_cells {f:Nat} {e:TypeId} {cs:List Value} (ih:∀(cs:List Value),(∃fuel x,DataW.trod enc P w base spare held fuel e cs=some x∧wOK P e x.1)→cs.length=P.cellsOf e→∃vs,CV w vs cs∧tyV P f e vs) {n:Nat}
  (hl:cs.length=n * P.cellsOf e) (hall:∀i,i<n→∃fuel x,DataW.trod enc P w base spare held fuel e ((cs.drop (i * P.cellsOf e)).take (P.cellsOf e))=some x∧wOK P e x.1) :
  ∀k,k≤n→∃vs,CV w vs (cs.take (k * P.cellsOf e))∧∀i,i<k→tyV P f e ((vs.drop (i * P.cellsOf e)).take (P.cellsOf e))
 | 0,_=>⟨[],by simpa using CV.nil w,fun i h=>by omega⟩
 | k+1,hk=>by
  obtain⟨v1,c1,t1⟩:=array_cells ih hl hall k (by omega)
  have hlt:(k+1) * P.cellsOf e≤n * P.cellsOf e:=Nat.mul_le_mul_right _ hk
  rw [Nat.add_mul,Nat.one_mul]at hlt
  obtain⟨v2,c2,t2⟩:=ih _ (hall k (by omega)) (by simp; omega)
  have hv1:v1.length=k * P.cellsOf e:=by rw [c1.1]; simp; omega
  have hv2:v2.length=P.cellsOf e:=by rw [c2.1]; simp; omega
  refine⟨v1++v2,?_,fun i hi=>?_⟩
  ·have:=c1.append c2
   rw [Nat.add_mul,Nat.one_mul,List.take_add]
   exact this
  ·by_cases hik:i<k
   ·have h1:(i+1) * P.cellsOf e≤k * P.cellsOf e:=Nat.mul_le_mul_right _ hik
    rw [Nat.add_mul,Nat.one_mul]at h1
    rw [List.drop_append_of_le_length (by omega),List.take_append_of_le_length (by simp; omega)]
    exact t1 i hik
   ·have:i=k:=by omega
    subst this
    rw [List.drop_append,List.drop_eq_nil_of_le (by omega),List.nil_append,hv1,Nat.sub_self,List.drop_zero,List.take_of_length_le (by omega)]
    exact t2
omit [Gls]in
theorem read_cells:∀(f:Nat) (t:TypeId) (cs:List Value),plain P f t=true→(∃fuel x,DataW.trod enc P w base spare held fuel t cs=some x∧wOK P t x.1)→cs.length=P.cellsOf t→∃vs,CV w vs cs∧tyV P f t vs
 | 0,t,cs,hp,_,_=>by simp [plain]at hp
 | f+1,t,cs,hp,⟨fuel,x,hx,hwx⟩,hlen=>by
  cases fuel with
  | zero=>simp [DataW.trod]at hx
  | succ fuel=>
  simp only [plain]at hp
  cases hu:P.underlying t with
  | none=>simp [hu]at hp
  | some u=>
  rw [hu]at hp
  simp only [tyV,hu]
  cases u<;>simp only at hp ⊢<;>try (cases hp; done)
  case bool=>
   unfold DataW.trod at hx
   rw [hu]at hx
   split at hx<;>simp_all
   refine⟨_,.one (.bool _) rfl,?_⟩
   simp
  case int k=>
   unfold DataW.trod at hx
   rw [hu]at hx
   split at hx<;>simp_all
   obtain⟨⟨rfl,h1⟩,_⟩:=hx
   exact⟨_,.one (.int _ _) rfl,_,rfl,h1⟩
  case slice e=>
   simp only [Bool.and_eq_true,decide_eq_true_eq]at hp
   rcases DataW.trod_slice hu hx with⟨rfl,rfl⟩|⟨a,len,cap,elems,rest,n,hn,rfl,rfl,hb,hl,hm,hlen2,hel,hsp,hns⟩
   ·exact⟨_,.one (.sl0 (P.cellsOf e) none 0) rfl,[],rfl,by simp,by simp,by simp⟩
   by_cases h0:len=0
   ·subst h0
    exact⟨_,.one (.sl0 (P.cellsOf e) (some a) cap) rfl,[],rfl,by simp,by simp,by simp⟩
   unfold wOK DataW.weights at hwx
   rw [hu]at hwx
   simp only [List.length_map,List.mem_cons,List.mem_append]at hwx
   have hbig:=hwx _ (.inl rfl)
   have hbl:elems.length * P.bytesOf e≤reachBytes:=Nat.le_trans (Nat.mul_le_mul_right _ (Nat.le_add_right _ _)) hbig
   have hwe:∀d∈elems.map (·.1),wOK P e d:=wOK_all fun n hn=>hwx n (.inr (.inl hn))
   have each:∀i,i<len→∃row vs,w.cells? base (a.add (i * P.cellsOf e)) (P.cellsOf e)=some row∧row.length=P.cellsOf e∧CV w vs row∧tyV P f e vs:=by
    intro i hi
    have h1:=hel i hi
    have h2:elems[i]?=some elems[i]:=List.getElem?_eq_getElem (by omega)
    rw [h2,Option.bind_eq_some_iff]at h1
    obtain⟨row,h3,h4⟩:=h1
    have h5:=(World.cells?_some h3).2.1
    obtain⟨vs,c,ty⟩:=read_cells f e row hp.2 ⟨n,_,h4,hwe _ (List.mem_map.2 ⟨_,List.getElem_mem _,rfl⟩)⟩ h5
    exact⟨row,vs,h3,h5,c,ty⟩
   obtain⟨row0,_,g1,g2,_,_⟩:=each 0 (by omega)
   have hspot:a.spot=none:=by
    have h3:=(World.cells?_some g1).2.2 0 hp.1
    simp only [Nat.zero_mul]at h3
    have h4:row0[0]?=some row0[0]:=List.getElem?_eq_getElem (by omega)
    have e0:(a.add 0).add 0=a:=by simp [Addr.add]
    rw [h4,e0]at h3
    unfold World.cell? at h3
    split at h3
    ·split at h3
     ·cases h3
     ·rename_i hs; simpa using hs
    ·cases h3
   have hlt:a.block<w.heap.size:=by
    have h3:=(World.cells?_some g1).2.2 0 hp.1
    simp only [Nat.zero_mul]at h3
    have h4:row0[0]?=some row0[0]:=List.getElem?_eq_getElem (by omega)
    have e0:(a.add 0).add 0=a:=by simp [Addr.add]
    rw [h4,e0]at h3
    unfold World.cell? at h3
    split at h3
    ·rename_i hh; exact(Array.getElem?_eq_some_iff.1 hh).1
    ·cases h3
   have haddr:∀i j,(a.add (i * P.cellsOf e)).add j=⟨a.block,a.off+i * P.cellsOf e+j,none⟩:=by
    intro i j
    obtain⟨b,off,sp⟩:=a
    simp only at hspot
    subst hspot
    unfold Addr.add
    by_cases h1:i * P.cellsOf e=0
    ·rw [if_pos h1]
     by_cases h2:j=0
     ·rw [if_pos h2]; simp [h1,h2]
     ·rw [if_neg h2]; simp [h1]
    ·rw [if_neg h1]
     by_cases h2:j=0
     ·rw [if_pos h2]; simp [h2]
     ·rw [if_neg h2]
   have rows:∀k,k≤len→∃els:List (List V),els.length=k∧∀i row,els[i]?=some row→tyV P f e row∧∃vs,w.cells? base (a.add (i * P.cellsOf e)) (P.cellsOf e)=some vs∧vs.length=P.cellsOf e∧CV w row vs:=by
    intro k
    induction k with
    | zero=>intro _; exact⟨[],rfl,by simp⟩
    | succ k ih=>
     intro hk
     obtain⟨els,h1,h2⟩:=ih (by omega)
     obtain⟨row,vs,h3,h4,h5,h6⟩:=each k (by omega)
     refine⟨els++[vs],by simp [h1],fun i r hr=>?_⟩
     rw [List.getElem?_append]at hr
     split at hr
     ·exact h2 i r hr
     ·rename_i hi
      have:i - els.length=0:=by
       cases hd:i - els.length with
       | zero=>rfl
       | succ m=>rw [hd]at hr; simp at hr
      rw [this]at hr
      simp only [List.getElem?_cons_zero,Option.some.injEq]at hr
      subst hr
      have:i=k:=by omega
      subst this
      exact⟨h6,row,h3,h4,h5⟩
   obtain⟨els,l1,l2⟩:=rows len (Nat.le_refl _)
   refine⟨[.sl (P.cellsOf e) els],.one ?_ rfl,els,rfl,by omega,by rw [l1,←hlen2]; exact hbl,fun row hrow=>?_⟩
   ·have hcell:∀i j row c,els[i]?=some row→row[j]?=some c→∃u,w.cell? ⟨a.block,a.off+i * P.cellsOf e+j,none⟩=some u∧u.oneCell'=true∧PV w (fun _=>False) c u:=by
     intro i j row c hr hc
     obtain⟨_,vs,k1,k2,k3⟩:=l2 i row hr
     obtain⟨k4,k5⟩:=k3.2 j c hc
     have hj:j<P.cellsOf e:=by have:=(List.getElem?_eq_some_iff.1 hc).1; rw [k3.1,k2]at this; exact this
     have:=(World.cells?_some k1).2.2 j hj
     rw [haddr,List.getElem?_eq_getElem (by omega)]at this
     refine⟨_,this,?_,?_⟩
     ·have e1:vs.getD j und=vs[j]:=by simp [List.getD,List.getElem?_eq_getElem (show j<vs.length by omega)]
      rw [←e1]; exact k5
     ·have e1:vs.getD j und=vs[j]:=by simp [List.getD,List.getElem?_eq_getElem (show j<vs.length by omega)]
      rw [←e1]; exact k4
    have:=PV.sl (w:=w) (A:=fun _=>False) (P.cellsOf e) els a.block a.off cap (fun i j=>(w.cell? ⟨a.block,a.off+i * P.cellsOf e+j,none⟩).getD und) (by omega) hlt (fun h=>h)
     (fun row hrow=>by
      obtain⟨i,hi⟩:=List.getElem?_of_mem hrow
      obtain⟨_,vs,k1,k2,k3⟩:=l2 i row hi
      rw [k3.1,k2])
     (fun i j row c hr hc=>by
      obtain⟨u,k1,k2,k3⟩:=hcell i j row c hr hc
      rw [k1]; exact⟨rfl,k2⟩)
     (fun i j row c hr hc=>by
      obtain⟨u,k1,k2,k3⟩:=hcell i j row c hr hc
      rw [k1]; exact k3)
    rw [l1]at this
    obtain⟨b,off,sp⟩:=a
    simp only at hspot
    subst hspot
    exact this
   ·obtain⟨i,hi⟩:=List.getElem?_of_mem hrow
    exact(l2 i row hi).1
  case struct fs=>
   simp only [Bool.and_eq_true,List.all_eq_true]at hp
   unfold DataW.trod at hx
   rw [hu]at hx
   simp only at hx
   split at hx<;>try (simp_all; done)
   rename_i hl
   simp only [Option.map_eq_some_iff]at hx
   obtain⟨ys,hys,rfl⟩:=hx
   unfold wOK DataW.weights at hwx
   rw [hu]at hwx
   simp only at hwx
   obtain⟨vs,c,ty⟩:=struct_cells (f:=f) (fun fl hfl cs h1 h2=>read_cells f fl.type cs hfl h1 h2) fs.toList 0 (P.cellsOf t) hp.1 hl (Nat.zero_le _) (fun fl hfl=>⟨hp.2 fl hfl,fuel,wOK_each hys hwx fl hfl⟩)
   rw [List.drop_zero]at c
   exact⟨vs,c,by rw [c.1,hl],fun fl hfl=>by simpa using (ty fl hfl).2⟩
  case array n e=>
   simp only [Bool.and_eq_true,decide_eq_true_eq]at hp
   unfold DataW.trod at hx
   rw [hu]at hx
   simp only at hx
   split at hx<;>try (simp_all; done)
   rename_i hl
   simp only [Option.map_eq_some_iff]at hx
   obtain⟨ys,hys,rfl⟩:=hx
   unfold wOK DataW.weights at hwx
   rw [hu]at hwx
   simp only at hwx
   obtain⟨vs,c,ty⟩:=array_cells (f:=f) (e:=e) (fun cs h1 h2=>read_cells f e cs hp.2 h1 h2) (n:=n) (by rw [hl,hp.1]) (fun i hi=>⟨fuel,by
    obtain⟨y,hy,ey⟩:=mapM_mem hys i (by simpa using hi)
    exact⟨y,ey,wOK_all hwx _ (List.mem_map.2 ⟨y,hy,rfl⟩)⟩⟩) n (Nat.le_refl _)
   rw [List.take_of_length_le (by rw [hl,hp.1]; exact Nat.le_refl _)]at c
   exact⟨vs,c,by rw [c.1,hl],ty⟩
end
omit [Gls]in
theorem rows_map {α:Type} {R:α→List V}:∀{els:List (List V)},(∀row∈els,∃a,row=R a)→∃l:List α,els=l.map R
 | [],_=>⟨[],rfl⟩
 | r::els,h=>by
  obtain⟨a,ha⟩:=h r (by simp)
  obtain⟨l,hl⟩:=rows_map (els:=els) (fun row hr=>h row (by simp [hr]))
  exact⟨a::l,by simp [ha,hl]⟩
def argTy (P:Program) (g:Nat) (t:TypeId) (x:V):Prop:=if isAg P t=true then ∃vs,x=.agg vs∧tyV P g t vs else tyV P g t [x]
def argB (P:Program) (g:Nat) (t:TypeId):Bool:=plain P g t && (isAg P t || P.cellsOf t == 1) && P.readableRec t && decide (t<P.types.size)
section
variable {H:Type} {enc:TypeId × Value→H} {P:Program} {w:World} {spare:Nat→Bool} {held:Bool}
omit [Gls]in
theorem arg_read {g:Nat} {t:TypeId} {v:Value} {d:DataW H} {ps:List MemPlace} {r:Reach} {b0:Nat} (hb:argB P g t=true) (hok:Value.okWide P w r b0 t v) (hd:DataW.Trod enc P w 0 spare held t v d ps) (hwx:wOK P t d) :
  ∃x,PV w (fun _=>False) x v∧argTy P g t x:=by
 simp only [argB,Bool.and_eq_true,Bool.or_eq_true,beq_iff_eq]at hb
 obtain⟨⟨⟨hp,hc⟩,_⟩,_⟩:=hb
 obtain⟨fuel,hx⟩:=hd
 by_cases ha:isAg P t=true
 ·have:∃cs,v=.agg cs∧cs.size=P.cellsOf t:=by
   unfold Value.okWide at hok
   unfold isAg at ha
   cases hu:P.underlying t with
   | none=>simp [hu]at ha
   | some u=>
    rw [hu]at hok ha
    cases u<;>simp at ha hok
    ·obtain⟨cs,h1,h2,_⟩:=hok; exact⟨cs,h1,h2⟩
    ·obtain⟨cs,h1,h2,_⟩:=hok; exact⟨cs,h1,h2⟩
  obtain⟨cs,rfl,hs⟩:=this
  obtain⟨vs,c,ty⟩:=read_cells g t cs.toList hp ⟨fuel,_,hx,hwx⟩ (by simpa using hs)
  refine⟨.agg vs,.agg vs cs (by simpa using c.1.symm) fun i x hi=>?_,?_⟩
  ·have:=(c.2 i x hi).1
   simpa [Array.getD_eq_getD_getElem?,List.getD_eq_getElem?_getD]using this
  ·unfold argTy; rw [if_pos ha]; exact⟨vs,rfl,ty⟩
 ·have hc1:P.cellsOf t=1:=by rcases hc with h|h; exact absurd h ha; exact h
  have hv:v.cells.toList=[v]:=by
   have hna:∀cs,v≠.agg cs:=by
    rintro cs rfl
    unfold Value.okWide at hok
    unfold isAg at ha
    cases hu:P.underlying t with
    | none=>cases g<;>simp [plain,hu]at hp
    | some u=>
     rw [hu]at hok ha
     cases u<;>simp [Cell.okWide,Cell.ok,hu]at ha hok
   cases v<;>first|rfl|exact absurd rfl (hna _)
  rw [hv]at hx
  obtain⟨vs,c,ty⟩:=read_cells g t [v] hp ⟨fuel,_,hx,hwx⟩ (by simp [hc1])
  have hl:=c.1
  cases vs with
  | nil=>simp at hl
  | cons x r=>
   have:r=[]:=List.eq_nil_of_length_eq_zero (by simpa using hl)
   subst this
   refine⟨x,by simpa using (c.2 0 x rfl).1,?_⟩
   unfold argTy; rw [if_neg ha]; exact ty
omit [Gls]in
theorem args_read {g:Nat} {r:Reach} {b0:Nat}:∀(ts:List TypeId) (vs:List Value) (ds:List (DataW H)) (ps:List MemPlace),DataW.TrodAll enc P w 0 spare held ts vs ds ps→(∀n∈DataW.weightsEach P ts ds,n≤reachBytes)→(∀(j:Nat) t v,ts[j]?=some t→vs[j]?=some v→Value.okWide P w r b0 t v)→
  (ts.all (argB P g))=true→vs.length=ts.length∧ds.length=ts.length∧∃xs:List V,xs.length=ts.length∧(∀(i:Nat) t x,ts[i]?=some t→xs[i]?=some x→argTy P g t x)∧∀(i:Nat) x,xs[i]?=some x→PV w (fun _=>False) x (vs.getD i und)
 | [],[],[],ps,_,_,_,_=>⟨rfl,rfl,[],rfl,by simp,by simp⟩
 | t::ts,v::vs,d::ds,ps,h,hwt,hok,hb=>by
  obtain⟨p,q,h1,h2,_⟩:=h
  simp only [DataW.weightsEach,List.mem_append]at hwt
  simp only [List.all_cons,Bool.and_eq_true]at hb
  obtain⟨x,hx,hty⟩:=arg_read hb.1 (hok 0 t v rfl rfl) h1 (fun n hn=>hwt n (.inl hn))
  obtain⟨e1,e2,xs,e3,e4,e5⟩:=args_read ts vs ds q h2 (fun n hn=>hwt n (.inr hn)) (fun j t v ht hv=>hok (j+1) t v (by simpa using ht) (by simpa using hv)) hb.2
  refine⟨by simp [e1],by simp [e2],x::xs,by simp [e3],?_,?_⟩
  ·intro i t' x' ht hx'
   cases i with
   | zero=>simp at ht hx'; subst ht hx'; exact hty
   | succ i=>exact e4 i t' x' (by simpa using ht) (by simpa using hx')
  ·intro i x' hx'
   cases i with
   | zero=>simp at hx'; subst hx'; simpa using hx
   | succ i=>simpa using e5 i x' (by simpa using hx')
 | [],_::_,_,_,h,_,_,_=>h.elim
 | [],[],_::_,_,h,_,_,_=>h.elim
 | _::_,[],_,_,h,_,_,_=>h.elim
 | _::_,_::_,[],_,h,_,_,_=>h.elim
omit [Gls]in
theorem args_below {g:Nat} {w':World} (hl:laidOutB P=true) (hb:Below w.heap.size w w'):∀(ts:List TypeId) (vs:List Value) (ds:List (DataW H)) (ps:List MemPlace),DataW.TrodAll enc P w 0 (fun _=>true) true ts vs ds ps→(ts.all (argB P g))=true→(∀x∈ps,x.block<w.heap.size)→
  DataW.TrodAll enc P w' 0 (fun b=>decide (b<w.heap.size)) true ts vs ds ps
 | [],[],[],ps,h,_,_=>h
 | t::ts,v::vs,d::ds,ps,h,ha,hlt=>by
  obtain⟨p,q,h1,h2,rfl⟩:=h
  simp only [List.all_cons,Bool.and_eq_true]at ha
  have h3:=ha.1
  simp only [argB,Bool.and_eq_true,decide_eq_true_eq]at h3
  exact⟨p,q,Below.trod hl h3.1.2 h3.2 h1 hb (fun x hx=>hlt x (by simp [hx])),args_below hl hb ts vs ds q h2 ha.2 (fun x hx=>hlt x (by simp [hx])),rfl⟩
 | [],_::_,_,_,h,_,_=>h.elim
 | [],[],_::_,_,h,_,_=>h.elim
 | _::_,[],_,_,h,_,_=>h.elim
 | _::_,_::_,[],_,h,_,_=>h.elim
end
end Go.Sx
end
section
namespace Go.Sx
open Go.RowKit
variable [Gls]
section
variable {P:Program} {g:Nat} {t:TypeId} {vs:List V}
theorem tyV_fld {k o:Nat} {ft:TypeId} (h:tyV P (g+1) t vs) (hf:fld P t k=some (o,ft)):tyV P g ft ((vs.drop o).take (P.cellsOf ft)):=by
 simp only [tyV]at h
 unfold fld at hf
 cases hu:P.underlying t with
 | none=>simp [hu]at hf
 | some u=>
  rw [hu]at h hf
  cases u<;>simp only at h hf<;>try (cases hf; done)
  rename_i fs
  cases hk:fs[k]? with
  | none=>simp [hk]at hf
  | some fl=>
   simp only [hk,Option.map_some,Option.some.injEq,Prod.mk.injEq]at hf
   obtain⟨rfl,rfl⟩:=hf
   exact h.2 fl (Array.mem_toList_iff.2 (Array.mem_of_getElem? hk))
theorem tyV_len (h:tyV P (g+1) t vs) (ha:isAg P t=true):vs.length=P.cellsOf t:=by
 simp only [tyV]at h
 unfold isAg at ha
 cases hu:P.underlying t with
 | none=>simp [hu]at ha
 | some u=>
  rw [hu]at h ha
  cases u<;>simp only at h ha<;>first|(cases ha; done)|exact h.1
theorem tyV_int {k:IntKind} (h:tyV P (g+1) t vs) (hk:intK P t=some k):∃n,vs=[.int k n]∧(Lit.int k n).wf=true:=by
 simp only [tyV]at h
 unfold intK at hk
 cases hu:P.underlying t with
 | none=>simp [hu]at hk
 | some u=>
  rw [hu]at h hk
  cases u<;>simp only at h hk<;>try (cases hk; done)
  cases hk
  exact h
theorem tyV_slw {e:TypeId} (h:tyV P (g+1) t vs) (hk:slEl P t=some e):∃els,vs=[.sl (P.cellsOf e) els]∧els.length * P.bytesOf e≤140737488351232∧∀row∈els,tyV P g e row:=by
 simp only [tyV]at h
 unfold slEl at hk
 cases hu:P.underlying t with
 | none=>simp [hu]at hk
 | some u=>
  rw [hu]at h hk
  cases u<;>simp only at h hk<;>try (cases hk; done)
  cases hk
  obtain⟨els,h1,_,h2,h3⟩:=h
  exact⟨els,h1,by simpa [reachBytes]using h2,h3⟩
theorem argTy_one {x:V} (h:argTy P g t x) (ha:isAg P t=false):tyV P g t [x]:=by
 unfold argTy at h; rw [if_neg (by rw [ha]; decide)]at h; exact h
theorem argTy_agg {x:V} (h:argTy P g t x) (ha:isAg P t=true):∃vs,x=.agg vs∧tyV P g t vs:=by
 unfold argTy at h; rw [if_pos ha]at h; exact h
end
end Go.Sx
end
section
namespace Go.Sx
open Go.RowKit
variable [Gls]
theorem law_laid {C:Checked} {os:Os} (started:os.Started) {H:Type} {enc:TypeId × Value→H} {f:FuncId} {fn:Func} {s:ChangeSpec} {S:PSpec} {X:World→Array Value→Prop} (g:Nat) (tb:TypeId)
  (hX:∀(w w':World) (args:Array Value),w.heap=w'.heap→X w args→X w' args) (hGl:∀w args,X w args→GOK w (fun _=>False))
  (hown:ownKnob C.prog.godebug=none) (hl:laidOutB C.prog=true) (hin:C.prog.inits.idxOf? f=none) (hf:C.prog.funcs[f]?=some fn) (hOK:FnOK C.prog f (.pure S))
  (hvars:s.vars=[]) (hspec:∀ds:List (DataW H),ds.length=fn.params.size→s.fn H ds={results:=[.lit (.bool true)],args:=ds})
  (hrt:fn.resultTypes = #[tb]) (htb:C.prog.underlying tb=some .bool) (hpl:fn.params.toList.all (argB C.prog g)=true)
  (hopen:∀xs:List V,xs.length=fn.params.size→(∀(i:Nat) t x,fn.params.toList[i]?=some t→xs[i]?=some x→argTy C.prog g t x)→∃d,S.pre d∧S.res d=.bool true∧S.enc d=xs)
  (witness:∃(w:World) (tape:Tape) (i:Input),w.os=os∧(w.forCall tape i).Shaped C.prog∧i.vars=[]∧Input.okWide C.prog (w.forCall tape i) .any w.heap.size f i∧
   ((s.pre enc C.prog fn [] false (w.forCall tape i).memory i.args∧X (w.forCall tape i).memory i.args)∧sizedMet enc C.prog fn (OpenSpec.ofChange s) false (w.forCall tape i).memory i.args)∧({}:Assume).holds C.prog (lone (Frame.enter C.prog f i.args .normal) [] (w.forCall tape i))) :
  ReturnsInHanded {} C os f .any (fun w args=>(s.pre enc C.prog fn [] false w args∧X w args)∧sizedMet enc C.prog fn (OpenSpec.ofChange s) false w args) (s.post enc C.prog fn false true false false):=by
 refine returnsInHanded_of_change_and hX hown started hin hf witness ?_
 intro W base args ds gs before hval hW _ hwt hx _
 have hW':=hW
 obtain⟨p,q,hA,hV,rfl,hfz,hnd⟩:=hW
 rw [hvars]at hV
 have hgs:gs=[]∧q=[]:=by
  cases gs with
  | nil=>exact⟨rfl,hV⟩
  | cons a b=>exact hV.elim
 obtain⟨rfl,rfl⟩:=hgs
 rw [show s.plain.varTypes C.prog=[] by unfold ChangeSpec.plain DataSpec.varTypes; simp [hvars],List.append_nil,List.append_nil,List.all_eq_true]at hwt
 obtain⟨e1,e2,xs,e3,e4,e5⟩:=args_read (g:=g) _ _ _ _ hA (fun n hn=>by simpa using hwt n hn) (fun j t v ht hv=>hval j t v (by simpa using ht) (by simpa using hv)) hpl
 obtain⟨d,hd1,hd2,hd3⟩:=hopen xs (by simpa using e3) e4
 refine((hOK.pure S rfl) d hd1 W (fun _=>False) args (hGl _ _ hx) (fun _ h=>h.elim) (by rw [hd3,e3]; simpa using e1) (fun i c hc=>?_)).mono fun e W' hres=>?_
 ·rw [hd3]at hc
  have:=e5 i c hc
  simpa [Array.getD_eq_getD_getElem?,List.getD_eq_getElem?_getD]using this
 obtain⟨v,rfl,hb,hv⟩:=hres
 rw [hd2]at hv
 cases hv
 refine⟨_,rfl,ds,[],p++[],[],p,[],hW',?_,?_,?_,hb.frame _,fun h=>by cases h⟩
 ·rw [hrt]
  have h1:s.fn H (ds++[])={results:=[.lit (.bool true)],args:=ds}:=by rw [List.append_nil]; exact hspec ds (by simpa using e2)
  rw [h1]
  exact⟨[],[],shut_bool htb true,rfl,rfl⟩
 ·have h1:s.fn H (ds++[])={results:=[.lit (.bool true)],args:=ds}:=by rw [List.append_nil]; exact hspec ds (by simpa using e2)
  rw [h1]
  exact args_below hl hb _ _ _ _ hA hpl (fun x hx=>hW'.lt x (by simpa using hx))
 ·rw [hvars]
  have h1:s.fn H (ds++[])={results:=[.lit (.bool true)],args:=ds}:=by rw [List.append_nil]; exact hspec ds (by simpa using e2)
  rw [h1]
  exact rfl
theorem pair_laid {P:Program} {w:World} {n:String} {g:Nat} {t e:TypeId} {cs:Array Value} {fuel:Nat} {a b:Int} {p:List MemPlace} (hg:P.globalNamed n=some g) (hv:w.var? P n=some cs)
  (ht:P.underlying t=some (.array 2 e)) (he:P.underlying e=some (.int .i64)) (hc:P.cellsOf e=1)
  (hd:DataW.trod (fun _=>()) P w 0 (fun _=>true) false fuel t cs.toList=some (.agg [.lit (.int .i64 a),.lit (.int .i64 b)],p)) :
  PV w (fun _=>False) (.ip 2 [[.int .i64 a,.int .i64 b]] 0 0) (.pointer (some ⟨g,0,none⟩)):=by
 obtain⟨xs,m,_,ex,_,hl,hel⟩:=DataW.trod_array ht hd
 have h0:=hel 0 (by omega)
 have h1:=hel 1 (by omega)
 match xs,hl with
 | [x0,x1],_=>
  simp only [List.map_cons,List.map_nil,Prod.mk.injEq,DataW.agg.injEq,List.cons.injEq,and_true]at ex
  obtain⟨⟨ex0,ex1⟩,_⟩:=ex
  rw [hc]at h0 h1
  simp only [List.getElem?_cons_zero,List.getElem?_cons_succ]at h0 h1
  obtain⟨n0,c0,d0,_⟩:=DataW.trod_int he h0
  obtain⟨n1,c1,d1,_⟩:=DataW.trod_int he h1
  rw [d0]at ex0
  rw [d1]at ex1
  simp only [DataW.lit.injEq,Lit.int.injEq,true_and]at ex0 ex1
  subst ex0; subst ex1
  have g0:cs[0]?=some (.int .i64 a):=by
   have:((cs.toList.drop (0 * 1)).take 1)[0]?=some (.int .i64 a):=by rw [c0]; rfl
   simpa using this
  have g1:cs[1]?=some (.int .i64 b):=by
   have:((cs.toList.drop (1 * 1)).take 1)[0]?=some (.int .i64 b):=by rw [c1]; rfl
   simpa using this
  have k0:=World.var?_cell hg hv 0
  have k1:=World.var?_cell hg hv 1
  rw [g0]at k0
  rw [g1]at k1
  have hb:g<w.heap.size:=by
   cases hh:w.heap[g]? with
   | none=>simp [World.cell?,hh]at k0
   | some o=>exact(Array.getElem?_eq_some_iff.1 hh).1
  refine .ip 2 [[.int .i64 a,.int .i64 b]] 0 0 g 0 (fun _ j=>if j=0 then .int .i64 a else .int .i64 b) hb (fun h=>h) (fun row hr=>?_) (fun e j row c h1 h2=>?_) (fun e j row c h1 h2=>?_)
  ·simp at hr; subst hr; rfl
  ·match e,h1 with
   | 0,h1=>
    cases h1
    match j,h2 with
    | 0,h2=>exact⟨by simpa using k0,rfl⟩
    | 1,h2=>exact⟨by simpa using k1,rfl⟩
  ·match e,h1 with
   | 0,h1=>
    cases h1
    match j,h2 with
    | 0,h2=>cases h2; exact .int _ _
    | 1,h2=>cases h2; exact .int _ _
end Go.Sx
end
section
namespace Go.Sx
open Go.Proofs Go.RowKit
theorem int_rd {g:Nat} {vs:List V} (h:tyV Tryz.prog (g+1) 3 vs):∃n,vs=[.int .i64 n]:=by
 obtain⟨n,h1,_⟩:=tyV_int h Ty.ik3
 exact⟨n,h1⟩
theorem tyV_bool {P:Program} {g:Nat} {t:TypeId} {vs:List V} (h:tyV P (g+1) t vs) (hk:P.underlying t=some .bool):∃b,vs=[.bool b]:=by
 simp only [tyV,hk]at h; exact h
theorem bool_rd {g:Nat} {vs:List V} (h:tyV Tryz.prog (g+1) 4 vs):∃n,vs=[.bool n]:=tyV_bool h (by kernel_rfl)
theorem cut_at {vs:List V} (a n:Nat) {l:List V} (h:(vs.drop a).take n=l):vs.drop a=l++vs.drop (a+n):=by
 rw [←h,←List.drop_drop,List.take_append_drop]
theorem sp_rd {g:Nat} {vs:List V} (k:tyV Tryz.prog (g+2) 23 vs):∃x:Sp,vs=[.int .i64 x.lo,.int .i64 x.hi]:=by
 have hl:=tyV_len k (show isAg Tryz.prog 23=true by kernel_rfl)
 rw [show Tryz.prog.cellsOf 23=2 by kernel_rfl]at hl
 obtain⟨n0,e0⟩:=int_rd (g:=g) (tyV_fld k (show fld Tryz.prog 23 0=some (0,3) by kernel_rfl))
 rw [Ty.cz3]at e0
 obtain⟨n1,e1⟩:=int_rd (g:=g) (tyV_fld k (show fld Tryz.prog 23 1=some (1,3) by kernel_rfl))
 rw [Ty.cz3]at e1
 refine⟨⟨n0,n1⟩,?_⟩
 have hz:vs.drop 2=[]:=List.drop_eq_nil_of_le (by omega)
 have h0:vs=vs.drop 0:=rfl
 rw [h0,cut_at 0 1 e0,cut_at 1 1 e1,hz]
 simp
theorem sky_rd {g:Nat} {vs:List V} (k:tyV Tryz.prog (g+3) 25 vs):∃x:Sky,vs=x.row:=by
 have hl:=tyV_len k Ty.ag25
 rw [Ty.cz25]at hl
 obtain⟨n0,e0⟩:=sp_rd (g:=g) (tyV_fld k Ty.fd25_0)
 rw [Ty.cz23]at e0
 obtain⟨n1,e1⟩:=sp_rd (g:=g) (tyV_fld k Ty.fd25_1)
 rw [Ty.cz23]at e1
 obtain⟨n2,e2⟩:=sp_rd (g:=g) (tyV_fld k Ty.fd25_2)
 rw [Ty.cz23]at e2
 obtain⟨n3,e3⟩:=bool_rd (g:=g+1) (tyV_fld k Ty.fd25_3)
 rw [Ty.cz4]at e3
 obtain⟨n4,e4⟩:=bool_rd (g:=g+1) (tyV_fld k Ty.fd25_4)
 rw [Ty.cz4]at e4
 refine⟨⟨n0,n1,n2,n3,n4⟩,?_⟩
 have hz:vs.drop 8=[]:=List.drop_eq_nil_of_le (by omega)
 have h0:vs=vs.drop 0:=rfl
 rw [h0,cut_at 0 2 e0,cut_at 2 2 e1,cut_at 4 2 e2,cut_at 6 1 e3,cut_at 7 1 e4,hz]
 simp [Sky.row]
theorem fc_rd {g:Nat} {vs:List V} (k:tyV Tryz.prog (g+4) 206 vs):∃x:Fc,vs=x.row:=by
 have hl:=tyV_len k Ty.ag206
 rw [Ty.cz206]at hl
 obtain⟨n0,e0⟩:=int_rd (g:=g+2) (tyV_fld k Ty.fd206_0)
 rw [Ty.cz3]at e0
 obtain⟨n1,e1⟩:=int_rd (g:=g+2) (tyV_fld k Ty.fd206_1)
 rw [Ty.cz3]at e1
 obtain⟨n2,e2⟩:=int_rd (g:=g+2) (tyV_fld k Ty.fd206_2)
 rw [Ty.cz3]at e2
 obtain⟨n3,e3⟩:=int_rd (g:=g+2) (tyV_fld k Ty.fd206_3)
 rw [Ty.cz3]at e3
 obtain⟨n4,e4⟩:=sky_rd (g:=g) (tyV_fld k Ty.fd206_4)
 rw [Ty.cz25]at e4
 refine⟨⟨n0,n1,n2,n3,n4⟩,?_⟩
 have hz:vs.drop 12=[]:=List.drop_eq_nil_of_le (by omega)
 have h0:vs=vs.drop 0:=rfl
 rw [h0,cut_at 0 1 e0,cut_at 1 1 e1,cut_at 2 1 e2,cut_at 3 1 e3,cut_at 4 8 e4,hz]
 simp [Fc.row,Sky.row]
theorem wt_rd {g:Nat} {vs:List V} (k:tyV Tryz.prog (g+2) 209 vs):∃x:Wt,vs=x.row:=by
 have hl:=tyV_len k Ty.ag209
 rw [Ty.cz209]at hl
 obtain⟨n0,e0⟩:=int_rd (g:=g) (tyV_fld k Ty.fd209_0)
 rw [Ty.cz3]at e0
 obtain⟨n1,e1⟩:=int_rd (g:=g) (tyV_fld k Ty.fd209_1)
 rw [Ty.cz3]at e1
 obtain⟨n2,e2⟩:=int_rd (g:=g) (tyV_fld k Ty.fd209_2)
 rw [Ty.cz3]at e2
 obtain⟨n3,e3⟩:=bool_rd (g:=g) (tyV_fld k Ty.fd209_3)
 rw [Ty.cz4]at e3
 obtain⟨n4,e4⟩:=bool_rd (g:=g) (tyV_fld k Ty.fd209_4)
 rw [Ty.cz4]at e4
 refine⟨⟨n0,n1,n2,n3,n4⟩,?_⟩
 have hz:vs.drop 5=[]:=List.drop_eq_nil_of_le (by omega)
 have h0:vs=vs.drop 0:=rfl
 rw [h0,cut_at 0 1 e0,cut_at 1 1 e1,cut_at 2 1 e2,cut_at 3 1 e3,cut_at 4 1 e4,hz]
 simp [Wt.row]
theorem sg_rd {g:Nat} {vs:List V} (k:tyV Tryz.prog (g+3) 211 vs):∃x:Sg,vs=x.row:=by
 have hl:=tyV_len k Ty.ag211
 rw [Ty.cz211]at hl
 obtain⟨n0,e0⟩:=int_rd (g:=g+1) (tyV_fld k Ty.fd211_0)
 rw [Ty.cz3]at e0
 obtain⟨n1,e1⟩:=int_rd (g:=g+1) (tyV_fld k Ty.fd211_1)
 rw [Ty.cz3]at e1
 obtain⟨n2,e2⟩:=wt_rd (g:=g) (tyV_fld k Ty.fd211_2)
 rw [Ty.cz209]at e2
 refine⟨⟨n0,n1,n2⟩,?_⟩
 have hz:vs.drop 7=[]:=List.drop_eq_nil_of_le (by omega)
 have h0:vs=vs.drop 0:=rfl
 rw [h0,cut_at 0 1 e0,cut_at 1 1 e1,cut_at 2 5 e2,hz]
 simp [Sg.row,Wt.row]
theorem fcs_rd {g:Nat} {vs:List V} (h:tyV Tryz.prog (g+5) 26 vs):∃l:List Fc,vs=[.sl 12 (l.map Fc.row)]∧l.length≤100000000000000:=by
 obtain⟨els,h1,h2,h3⟩:=tyV_slw h Ty.se26
 obtain⟨l,hl⟩:=rows_map (R:=Fc.row) (els:=els) (fun row hr=>fc_rd (h3 row hr))
 subst hl
 rw [Ty.cz206]at h1
 rw [show Tryz.prog.bytesOf 206=88 by kernel_rfl]at h2
 exact⟨l,h1,by simp at h2; omega⟩
theorem sgs_rd {g:Nat} {vs:List V} (h:tyV Tryz.prog (g+4) 27 vs):∃l:List Sg,vs=[.sl 7 (l.map Sg.row)]∧l.length≤100000000000000:=by
 obtain⟨els,h1,h2,h3⟩:=tyV_slw h Ty.se27
 obtain⟨l,hl⟩:=rows_map (R:=Sg.row) (els:=els) (fun row hr=>sg_rd (h3 row hr))
 subst hl
 rw [Ty.cz211]at h1
 rw [show Tryz.prog.bytesOf 211=48 by kernel_rfl]at h2
 exact⟨l,h1,by simp at h2; omega⟩
theorem met_rd {g:Nat} {vs:List V} (k:tyV Tryz.prog (g+6) 29 vs):∃x:Met,vs=x.row∧x.fs.length≤100000000000000∧x.ss.length≤100000000000000:=by
 have hl:=tyV_len k Ty.ag29
 rw [Ty.cz29]at hl
 obtain⟨n0,e0⟩:=int_rd (g:=g+4) (tyV_fld k Ty.fd29_0)
 rw [Ty.cz3]at e0
 obtain⟨n1,e1⟩:=sky_rd (g:=g+2) (tyV_fld k Ty.fd29_1)
 rw [Ty.cz25]at e1
 obtain⟨n2,e2⟩:=int_rd (g:=g+4) (tyV_fld k Ty.fd29_2)
 rw [Ty.cz3]at e2
 obtain⟨n3,e3⟩:=int_rd (g:=g+4) (tyV_fld k Ty.fd29_3)
 rw [Ty.cz3]at e3
 obtain⟨n4,e4⟩:=int_rd (g:=g+4) (tyV_fld k Ty.fd29_4)
 rw [Ty.cz3]at e4
 obtain⟨n5,e5,b5_0⟩:=fcs_rd (g:=g) (tyV_fld k Ty.fd29_5)
 rw [Ty.cz26]at e5
 obtain⟨n6,e6,b6_0⟩:=sgs_rd (g:=g+1) (tyV_fld k Ty.fd29_6)
 rw [Ty.cz27]at e6
 refine⟨⟨n0,n1,n2,n3,n4,n5,n6⟩,?_,b5_0,b6_0⟩
 have hz:vs.drop 14=[]:=List.drop_eq_nil_of_le (by omega)
 have h0:vs=vs.drop 0:=rfl
 rw [h0,cut_at 0 1 e0,cut_at 1 8 e1,cut_at 9 1 e2,cut_at 10 1 e3,cut_at 11 1 e4,cut_at 12 1 e5,cut_at 13 1 e6,hz]
 simp [Met.row,Sky.row]
theorem mn_rd {g:Nat} {vs:List V} (k:tyV Tryz.prog (g+2) 31 vs):∃x:Wt,vs=x.row:=by
 have hl:=tyV_len k Ty.ag31
 rw [Ty.cz31]at hl
 obtain⟨n0,e0⟩:=int_rd (g:=g) (tyV_fld k Ty.fd31_0)
 rw [Ty.cz3]at e0
 obtain⟨n1,e1⟩:=int_rd (g:=g) (tyV_fld k Ty.fd31_1)
 rw [Ty.cz3]at e1
 obtain⟨n2,e2⟩:=int_rd (g:=g) (tyV_fld k Ty.fd31_2)
 rw [Ty.cz3]at e2
 obtain⟨n3,e3⟩:=bool_rd (g:=g) (tyV_fld k Ty.fd31_3)
 rw [Ty.cz4]at e3
 obtain⟨n4,e4⟩:=bool_rd (g:=g) (tyV_fld k Ty.fd31_4)
 rw [Ty.cz4]at e4
 refine⟨⟨n0,n1,n2,n3,n4⟩,?_⟩
 have hz:vs.drop 5=[]:=List.drop_eq_nil_of_le (by omega)
 have h0:vs=vs.drop 0:=rfl
 rw [h0,cut_at 0 1 e0,cut_at 1 1 e1,cut_at 2 1 e2,cut_at 3 1 e3,cut_at 4 1 e4,hz]
 simp [Wt.row]
theorem leg_rd {g:Nat} {vs:List V} (k:tyV Tryz.prog (g+2) 157 vs):∃x:Leg,vs=x.row:=by
 have hl:=tyV_len k Ty.ag157
 rw [Ty.cz157]at hl
 obtain⟨n0,e0⟩:=int_rd (g:=g) (tyV_fld k Ty.fd157_0)
 rw [Ty.cz3]at e0
 obtain⟨n1,e1⟩:=int_rd (g:=g) (tyV_fld k Ty.fd157_1)
 rw [Ty.cz3]at e1
 obtain⟨n2,e2⟩:=int_rd (g:=g) (tyV_fld k Ty.fd157_2)
 rw [Ty.cz3]at e2
 refine⟨⟨n0,n1,n2⟩,?_⟩
 have hz:vs.drop 3=[]:=List.drop_eq_nil_of_le (by omega)
 have h0:vs=vs.drop 0:=rfl
 rw [h0,cut_at 0 1 e0,cut_at 1 1 e1,cut_at 2 1 e2,hz]
 simp [Leg.row]
theorem legs_rd {g:Nat} {vs:List V} (h:tyV Tryz.prog (g+3) 32 vs):∃l:List Leg,vs=[.sl 3 (l.map Leg.row)]∧l.length≤100000000000000:=by
 obtain⟨els,h1,h2,h3⟩:=tyV_slw h Ty.se32
 obtain⟨l,hl⟩:=rows_map (R:=Leg.row) (els:=els) (fun row hr=>leg_rd (h3 row hr))
 subst hl
 rw [Ty.cz157]at h1
 rw [show Tryz.prog.bytesOf 157=24 by kernel_rfl]at h2
 exact⟨l,h1,by simp at h2; omega⟩
theorem kd_rd {g:Nat} {vs:List V} (k:tyV Tryz.prog (g+2) 159 vs):∃x:Kd,vs=x.row:=by
 have hl:=tyV_len k Ty.ag159
 rw [Ty.cz159]at hl
 obtain⟨n0,e0⟩:=int_rd (g:=g) (tyV_fld k Ty.fd159_0)
 rw [Ty.cz3]at e0
 obtain⟨n1,e1⟩:=int_rd (g:=g) (tyV_fld k Ty.fd159_1)
 rw [Ty.cz3]at e1
 obtain⟨n2,e2⟩:=int_rd (g:=g) (tyV_fld k Ty.fd159_2)
 rw [Ty.cz3]at e2
 refine⟨⟨n0,n1,n2⟩,?_⟩
 have hz:vs.drop 3=[]:=List.drop_eq_nil_of_le (by omega)
 have h0:vs=vs.drop 0:=rfl
 rw [h0,cut_at 0 1 e0,cut_at 1 1 e1,cut_at 2 1 e2,hz]
 simp [Kd.row]
theorem pt_rd {g:Nat} {vs:List V} (k:tyV Tryz.prog (g+2) 174 vs):∃x:Pt,vs=x.row:=by
 have hl:=tyV_len k Ty.ag174
 rw [Ty.cz174]at hl
 obtain⟨n0,e0⟩:=int_rd (g:=g) (tyV_fld k Ty.fd174_0)
 rw [Ty.cz3]at e0
 obtain⟨n1,e1⟩:=int_rd (g:=g) (tyV_fld k Ty.fd174_1)
 rw [Ty.cz3]at e1
 obtain⟨n2,e2⟩:=int_rd (g:=g) (tyV_fld k Ty.fd174_2)
 rw [Ty.cz3]at e2
 obtain⟨n3,e3⟩:=bool_rd (g:=g) (tyV_fld k Ty.fd174_3)
 rw [Ty.cz4]at e3
 refine⟨⟨n0,n1,n2,n3⟩,?_⟩
 have hz:vs.drop 4=[]:=List.drop_eq_nil_of_le (by omega)
 have h0:vs=vs.drop 0:=rfl
 rw [h0,cut_at 0 1 e0,cut_at 1 1 e1,cut_at 2 1 e2,cut_at 3 1 e3,hz]
 simp [Pt.row]
theorem od_rd {g:Nat} {vs:List V} (k:tyV Tryz.prog (g+2) 237 vs):∃x:Od,vs=x.row:=by
 have hl:=tyV_len k Ty.ag237
 rw [Ty.cz237]at hl
 obtain⟨n0,e0⟩:=int_rd (g:=g) (tyV_fld k Ty.fd237_0)
 rw [Ty.cz3]at e0
 obtain⟨n1,e1⟩:=int_rd (g:=g) (tyV_fld k Ty.fd237_1)
 rw [Ty.cz3]at e1
 refine⟨⟨n0,n1⟩,?_⟩
 have hz:vs.drop 2=[]:=List.drop_eq_nil_of_le (by omega)
 have h0:vs=vs.drop 0:=rfl
 rw [h0,cut_at 0 1 e0,cut_at 1 1 e1,hz]
 simp [Od.row]
theorem wk_rd {g:Nat} {vs:List V} (k:tyV Tryz.prog (g+2) 73 vs):∃x:Wk,vs=x.row:=by
 have hl:=tyV_len k Ty.ag73
 rw [Ty.cz73]at hl
 obtain⟨n0,e0⟩:=int_rd (g:=g) (tyV_fld k Ty.fd73_0)
 rw [Ty.cz3]at e0
 obtain⟨n1,e1⟩:=int_rd (g:=g) (tyV_fld k Ty.fd73_1)
 rw [Ty.cz3]at e1
 obtain⟨n2,e2⟩:=int_rd (g:=g) (tyV_fld k Ty.fd73_2)
 rw [Ty.cz3]at e2
 obtain⟨n3,e3⟩:=int_rd (g:=g) (tyV_fld k Ty.fd73_3)
 rw [Ty.cz3]at e3
 refine⟨⟨n0,n1,n2,n3⟩,?_⟩
 have hz:vs.drop 4=[]:=List.drop_eq_nil_of_le (by omega)
 have h0:vs=vs.drop 0:=rfl
 rw [h0,cut_at 0 1 e0,cut_at 1 1 e1,cut_at 2 1 e2,cut_at 3 1 e3,hz]
 simp [Wk.row]
theorem kds_rd {g:Nat} {vs:List V} (h:tyV Tryz.prog (g+3) 33 vs):∃l:List Kd,vs=[.sl 3 (l.map Kd.row)]∧l.length≤100000000000000:=by
 obtain⟨els,h1,h2,h3⟩:=tyV_slw h Ty.se33
 obtain⟨l,hl⟩:=rows_map (R:=Kd.row) (els:=els) (fun row hr=>kd_rd (h3 row hr))
 subst hl
 rw [Ty.cz159]at h1
 rw [show Tryz.prog.bytesOf 159=24 by kernel_rfl]at h2
 exact⟨l,h1,by simp at h2; omega⟩
theorem pts_rd {g:Nat} {vs:List V} (h:tyV Tryz.prog (g+3) 34 vs):∃l:List Pt,vs=[.sl 4 (l.map Pt.row)]∧l.length≤100000000000000:=by
 obtain⟨els,h1,h2,h3⟩:=tyV_slw h Ty.se34
 obtain⟨l,hl⟩:=rows_map (R:=Pt.row) (els:=els) (fun row hr=>pt_rd (h3 row hr))
 subst hl
 rw [Ty.cz174]at h1
 rw [show Tryz.prog.bytesOf 174=32 by kernel_rfl]at h2
 exact⟨l,h1,by simp at h2; omega⟩
theorem ods_rd {g:Nat} {vs:List V} (h:tyV Tryz.prog (g+3) 35 vs):∃l:List Od,vs=[.sl 2 (l.map Od.row)]∧l.length≤100000000000000:=by
 obtain⟨els,h1,h2,h3⟩:=tyV_slw h Ty.se35
 obtain⟨l,hl⟩:=rows_map (R:=Od.row) (els:=els) (fun row hr=>od_rd (h3 row hr))
 subst hl
 rw [Ty.cz237]at h1
 rw [show Tryz.prog.bytesOf 237=16 by kernel_rfl]at h2
 exact⟨l,h1,by simp at h2; omega⟩
theorem wks_rd {g:Nat} {vs:List V} (h:tyV Tryz.prog (g+3) 38 vs):∃l:List Wk,vs=[.sl 4 (l.map Wk.row)]∧l.length≤100000000000000:=by
 obtain⟨els,h1,h2,h3⟩:=tyV_slw h Ty.se38
 obtain⟨l,hl⟩:=rows_map (R:=Wk.row) (els:=els) (fun row hr=>wk_rd (h3 row hr))
 subst hl
 rw [Ty.cz73]at h1
 rw [show Tryz.prog.bytesOf 73=32 by kernel_rfl]at h2
 exact⟨l,h1,by simp at h2; omega⟩
theorem reg_rd {g:Nat} {vs:List V} (k:tyV Tryz.prog (g+4) 37 vs):∃x:Reg,vs=x.row∧x.kinds.length≤100000000000000∧x.parts.length≤100000000000000∧x.orders.length≤100000000000000:=by
 have hl:=tyV_len k Ty.ag37
 rw [Ty.cz37]at hl
 obtain⟨n0,e0,b0_0⟩:=kds_rd (g:=g) (tyV_fld k Ty.fd37_0)
 rw [Ty.cz33]at e0
 obtain⟨n1,e1,b1_0⟩:=pts_rd (g:=g) (tyV_fld k Ty.fd37_1)
 rw [Ty.cz34]at e1
 obtain⟨n2,e2⟩:=int_rd (g:=g+2) (tyV_fld k Ty.fd37_2)
 rw [Ty.cz3]at e2
 obtain⟨n3,e3,b3_0⟩:=ods_rd (g:=g) (tyV_fld k Ty.fd37_3)
 rw [Ty.cz35]at e3
 refine⟨⟨n0,n1,n2,n3⟩,?_,b0_0,b1_0,b3_0⟩
 have hz:vs.drop 4=[]:=List.drop_eq_nil_of_le (by omega)
 have h0:vs=vs.drop 0:=rfl
 rw [h0,cut_at 0 1 e0,cut_at 1 1 e1,cut_at 2 1 e2,cut_at 3 1 e3,hz]
 simp [Reg.row]
theorem pn_rd {g:Nat} {vs:List V} (k:tyV Tryz.prog (g+2) 112 vs):∃x:Pn,vs=x.row:=by
 have hl:=tyV_len k Ty.ag112
 rw [Ty.cz112]at hl
 obtain⟨n0,e0⟩:=int_rd (g:=g) (tyV_fld k Ty.fd112_0)
 rw [Ty.cz3]at e0
 obtain⟨n1,e1⟩:=int_rd (g:=g) (tyV_fld k Ty.fd112_1)
 rw [Ty.cz3]at e1
 obtain⟨n2,e2⟩:=int_rd (g:=g) (tyV_fld k Ty.fd112_2)
 rw [Ty.cz3]at e2
 refine⟨⟨n0,n1,n2⟩,?_⟩
 have hz:vs.drop 3=[]:=List.drop_eq_nil_of_le (by omega)
 have h0:vs=vs.drop 0:=rfl
 rw [h0,cut_at 0 1 e0,cut_at 1 1 e1,cut_at 2 1 e2,hz]
 simp [Pn.row]
theorem pns_rd {g:Nat} {vs:List V} (h:tyV Tryz.prog (g+3) 39 vs):∃l:List Pn,vs=[.sl 3 (l.map Pn.row)]∧l.length≤100000000000000:=by
 obtain⟨els,h1,h2,h3⟩:=tyV_slw h Ty.se39
 obtain⟨l,hl⟩:=rows_map (R:=Pn.row) (els:=els) (fun row hr=>pn_rd (h3 row hr))
 subst hl
 rw [Ty.cz112]at h1
 rw [show Tryz.prog.bytesOf 112=24 by kernel_rfl]at h2
 exact⟨l,h1,by simp at h2; omega⟩
theorem ro_rd {g:Nat} {vs:List V} (k:tyV Tryz.prog (g+4) 41 vs):∃x:Ro,vs=x.row∧x.ppl.length≤100000000000000:=by
 have hl:=tyV_len k Ty.ag41
 rw [Ty.cz41]at hl
 obtain⟨n0,e0,b0_0⟩:=pns_rd (g:=g) (tyV_fld k Ty.fd41_0)
 rw [Ty.cz39]at e0
 obtain⟨n1,e1⟩:=int_rd (g:=g+2) (tyV_fld k Ty.fd41_1)
 rw [Ty.cz3]at e1
 obtain⟨n2,e2⟩:=int_rd (g:=g+2) (tyV_fld k Ty.fd41_2)
 rw [Ty.cz3]at e2
 obtain⟨n3,e3⟩:=int_rd (g:=g+2) (tyV_fld k Ty.fd41_3)
 rw [Ty.cz3]at e3
 obtain⟨n4,e4⟩:=int_rd (g:=g+2) (tyV_fld k Ty.fd41_4)
 rw [Ty.cz3]at e4
 obtain⟨n5,e5⟩:=int_rd (g:=g+2) (tyV_fld k Ty.fd41_5)
 rw [Ty.cz3]at e5
 refine⟨⟨n0,n1,n2,n3,n4,n5⟩,?_,b0_0⟩
 have hz:vs.drop 6=[]:=List.drop_eq_nil_of_le (by omega)
 have h0:vs=vs.drop 0:=rfl
 rw [h0,cut_at 0 1 e0,cut_at 1 1 e1,cut_at 2 1 e2,cut_at 3 1 e3,cut_at 4 1 e4,cut_at 5 1 e5,hz]
 simp [Ro.row,pplV]
theorem du_rd {g:Nat} {vs:List V} (k:tyV Tryz.prog (g+2) 65 vs):∃x:Du,vs=x.row:=by
 have hl:=tyV_len k Ty.ag65
 rw [Ty.cz65]at hl
 obtain⟨n0,e0⟩:=int_rd (g:=g) (tyV_fld k Ty.fd65_0)
 rw [Ty.cz3]at e0
 obtain⟨n1,e1⟩:=int_rd (g:=g) (tyV_fld k Ty.fd65_1)
 rw [Ty.cz3]at e1
 obtain⟨n2,e2⟩:=int_rd (g:=g) (tyV_fld k Ty.fd65_2)
 rw [Ty.cz3]at e2
 refine⟨⟨n0,n1,n2⟩,?_⟩
 have hz:vs.drop 3=[]:=List.drop_eq_nil_of_le (by omega)
 have h0:vs=vs.drop 0:=rfl
 rw [h0,cut_at 0 1 e0,cut_at 1 1 e1,cut_at 2 1 e2,hz]
 simp [Du.row]
theorem dus_rd {g:Nat} {vs:List V} (h:tyV Tryz.prog (g+3) 42 vs):∃l:List Du,vs=[.sl 3 (l.map Du.row)]∧l.length≤100000000000000:=by
 obtain⟨els,h1,h2,h3⟩:=tyV_slw h Ty.se42
 obtain⟨l,hl⟩:=rows_map (R:=Du.row) (els:=els) (fun row hr=>du_rd (h3 row hr))
 subst hl
 rw [Ty.cz65]at h1
 rw [show Tryz.prog.bytesOf 65=24 by kernel_rfl]at h2
 exact⟨l,h1,by simp at h2; omega⟩
theorem ins_rd {g:Nat} {vs:List V} (h:tyV Tryz.prog (g+2) 43 vs):∃l:List Int,vs=[.sl 1 (l.map ri)]∧l.length≤100000000000000:=by
 obtain⟨els,h1,h2,h3⟩:=tyV_slw h Ty.se43
 obtain⟨l,hl⟩:=rows_map (R:=ri) (els:=els) (fun row hr=>int_rd (h3 row hr))
 subst hl
 rw [Ty.cz3]at h1
 rw [show Tryz.prog.bytesOf 3=8 by kernel_rfl]at h2
 exact⟨l,h1,by simp at h2; omega⟩
theorem jb_rd {g:Nat} {vs:List V} (k:tyV Tryz.prog (g+2) 59 vs):∃x:Jb,vs=x.row:=by
 have hl:=tyV_len k Ty.ag59
 rw [Ty.cz59]at hl
 obtain⟨n0,e0⟩:=int_rd (g:=g) (tyV_fld k Ty.fd59_0)
 rw [Ty.cz3]at e0
 obtain⟨n1,e1⟩:=int_rd (g:=g) (tyV_fld k Ty.fd59_1)
 rw [Ty.cz3]at e1
 obtain⟨n2,e2⟩:=int_rd (g:=g) (tyV_fld k Ty.fd59_2)
 rw [Ty.cz3]at e2
 obtain⟨n3,e3⟩:=int_rd (g:=g) (tyV_fld k Ty.fd59_3)
 rw [Ty.cz3]at e3
 obtain⟨n4,e4⟩:=bool_rd (g:=g) (tyV_fld k Ty.fd59_4)
 rw [Ty.cz4]at e4
 refine⟨⟨n0,n1,n2,n3,n4⟩,?_⟩
 have hz:vs.drop 5=[]:=List.drop_eq_nil_of_le (by omega)
 have h0:vs=vs.drop 0:=rfl
 rw [h0,cut_at 0 1 e0,cut_at 1 1 e1,cut_at 2 1 e2,cut_at 3 1 e3,cut_at 4 1 e4,hz]
 simp [Jb.row]
theorem jbs_rd {g:Nat} {vs:List V} (h:tyV Tryz.prog (g+3) 44 vs):∃l:List Jb,vs=[.sl 5 (l.map Jb.row)]∧l.length≤100000000000000:=by
 obtain⟨els,h1,h2,h3⟩:=tyV_slw h Ty.se44
 obtain⟨l,hl⟩:=rows_map (R:=Jb.row) (els:=els) (fun row hr=>jb_rd (h3 row hr))
 subst hl
 rw [Ty.cz59]at h1
 rw [show Tryz.prog.bytesOf 59=40 by kernel_rfl]at h2
 exact⟨l,h1,by simp at h2; omega⟩
theorem sr_rd {g:Nat} {vs:List V} (k:tyV Tryz.prog (g+2) 57 vs):∃x:Sr,vs=x.row:=by
 have hl:=tyV_len k Ty.ag57
 rw [Ty.cz57]at hl
 obtain⟨n0,e0⟩:=int_rd (g:=g) (tyV_fld k Ty.fd57_0)
 rw [Ty.cz3]at e0
 obtain⟨n1,e1⟩:=int_rd (g:=g) (tyV_fld k Ty.fd57_1)
 rw [Ty.cz3]at e1
 obtain⟨n2,e2⟩:=int_rd (g:=g) (tyV_fld k Ty.fd57_2)
 rw [Ty.cz3]at e2
 obtain⟨n3,e3⟩:=int_rd (g:=g) (tyV_fld k Ty.fd57_3)
 rw [Ty.cz3]at e3
 refine⟨⟨n0,n1,n2,n3⟩,?_⟩
 have hz:vs.drop 4=[]:=List.drop_eq_nil_of_le (by omega)
 have h0:vs=vs.drop 0:=rfl
 rw [h0,cut_at 0 1 e0,cut_at 1 1 e1,cut_at 2 1 e2,cut_at 3 1 e3,hz]
 simp [Sr.row]
theorem srs_rd {g:Nat} {vs:List V} (h:tyV Tryz.prog (g+3) 47 vs):∃l:List Sr,vs=[.sl 4 (l.map Sr.row)]∧l.length≤100000000000000:=by
 obtain⟨els,h1,h2,h3⟩:=tyV_slw h Ty.se47
 obtain⟨l,hl⟩:=rows_map (R:=Sr.row) (els:=els) (fun row hr=>sr_rd (h3 row hr))
 subst hl
 rw [Ty.cz57]at h1
 rw [show Tryz.prog.bytesOf 57=32 by kernel_rfl]at h2
 exact⟨l,h1,by simp at h2; omega⟩
theorem fl_rd {g:Nat} {vs:List V} (k:tyV Tryz.prog (g+7) 46 vs):∃x:Fl,vs=x.row∧x.met.fs.length≤100000000000000∧x.met.ss.length≤100000000000000∧x.net.length≤100000000000000∧x.reg.kinds.length≤100000000000000∧x.reg.parts.length≤100000000000000∧x.reg.orders.length≤100000000000000∧x.wks.length≤100000000000000∧x.ros.ppl.length≤100000000000000∧x.dus.length≤100000000000000∧x.bas.length≤100000000000000∧x.cra.length≤100000000000000∧x.jobs.length≤100000000000000:=by
 have hl:=tyV_len k Ty.ag46
 rw [Ty.cz46]at hl
 obtain⟨n0,e0,b0_0,b0_1⟩:=met_rd (g:=g) (tyV_fld k Ty.fd46_0)
 rw [Ty.cz29]at e0
 obtain⟨n1,e1⟩:=mn_rd (g:=g+4) (tyV_fld k Ty.fd46_1)
 rw [Ty.cz31]at e1
 obtain⟨n2,e2,b2_0⟩:=legs_rd (g:=g+3) (tyV_fld k Ty.fd46_2)
 rw [Ty.cz32]at e2
 obtain⟨n3,e3,b3_0,b3_1,b3_2⟩:=reg_rd (g:=g+2) (tyV_fld k Ty.fd46_3)
 rw [Ty.cz37]at e3
 obtain⟨n4,e4,b4_0⟩:=wks_rd (g:=g+3) (tyV_fld k Ty.fd46_4)
 rw [Ty.cz38]at e4
 obtain⟨n5,e5,b5_0⟩:=ro_rd (g:=g+2) (tyV_fld k Ty.fd46_5)
 rw [Ty.cz41]at e5
 obtain⟨n6,e6,b6_0⟩:=dus_rd (g:=g+3) (tyV_fld k Ty.fd46_6)
 rw [Ty.cz42]at e6
 obtain⟨n7,e7,b7_0⟩:=ins_rd (g:=g+4) (tyV_fld k Ty.fd46_7)
 rw [Ty.cz43]at e7
 obtain⟨n8,e8,b8_0⟩:=ins_rd (g:=g+4) (tyV_fld k Ty.fd46_8)
 rw [Ty.cz43]at e8
 obtain⟨n9,e9⟩:=int_rd (g:=g+5) (tyV_fld k Ty.fd46_9)
 rw [Ty.cz3]at e9
 obtain⟨n10,e10⟩:=int_rd (g:=g+5) (tyV_fld k Ty.fd46_10)
 rw [Ty.cz3]at e10
 obtain⟨n11,e11⟩:=int_rd (g:=g+5) (tyV_fld k Ty.fd46_11)
 rw [Ty.cz3]at e11
 obtain⟨n12,e12⟩:=int_rd (g:=g+5) (tyV_fld k Ty.fd46_12)
 rw [Ty.cz3]at e12
 obtain⟨n13,e13,b13_0⟩:=jbs_rd (g:=g+3) (tyV_fld k Ty.fd46_13)
 rw [Ty.cz44]at e13
 refine⟨⟨n0,n1,n2,n3,n4,n5,n6,n7,n8,n9,n10,n11,n12,n13⟩,?_,b0_0,b0_1,b2_0,b3_0,b3_1,b3_2,b4_0,b5_0,b6_0,b7_0,b8_0,b13_0⟩
 have hz:vs.drop 39=[]:=List.drop_eq_nil_of_le (by omega)
 have h0:vs=vs.drop 0:=rfl
 rw [h0,cut_at 0 14 e0,cut_at 14 5 e1,cut_at 19 1 e2,cut_at 20 4 e3,cut_at 24 1 e4,cut_at 25 6 e5,cut_at 31 1 e6,cut_at 32 1 e7,cut_at 33 1 e8,cut_at 34 1 e9,cut_at 35 1 e10,cut_at 36 1 e11,cut_at 37 1 e12,cut_at 38 1 e13,hz]
 simp [Fl.row]
theorem fleet_of {g:Nat} {x:V} (h:argTy Tryz.prog (g+7) 46 x):∃f:Fl,x=.agg f.row∧FlP f:=by
 obtain⟨vs,e,k⟩:=argTy_agg h Ty.ag46
 obtain⟨f,e1,b0,b1,b2,b3,b4,b5,b6,b7,b8,b9,b10,b11⟩:=fl_rd k
 exact⟨f,by rw [e,e1],⟨⟨b0,b1⟩,b2,⟨by simp only; omega,by simp only; omega,by simp only; omega,by simp only; omega⟩,⟨b7,b8⟩,b9,b10,b11⟩⟩
theorem plan_of {g:Nat} {x:V} (h:argTy Tryz.prog (g+3) 47 x):∃l:List Sr,x=.sl 4 (l.map Sr.row)∧l.length≤100000000000000:=by
 obtain⟨l,h1,h2⟩:=srs_rd (argTy_one h (show isAg Tryz.prog 47=false by kernel_rfl))
 exact⟨l,by simpa using h1,h2⟩
abbrev laidL:List (String × DataW Unit):=[("swashplate/parts.store",.agg [.lit (.int .i64 (-1)),.lit (.int .i64 (-1))]),("swashplate/parts.scrap",.agg [.lit (.int .i64 (-2)),.lit (.int .i64 (-2))])]
theorem laid_gok {W:World} (h:laidMetH Tryz.prog laidL W):GOK W (fun _=>False):=by
 rw [MakeChecks.laidMetH_plain _ _ _ (by kernel_rfl)]at h
 obtain⟨ps,⟨g,t,cs,fuel,p,q,hg,ht,hv,hd,⟨g',t',cs',fuel',p',q',hg',ht',hv',hd',_⟩,_⟩,_⟩:=h
 obtain rfl:=Option.some.inj ((show Tryz.prog.globalNamed "swashplate/parts.store" = some 0 by kernel_rfl).symm.trans hg)
 obtain rfl:=Option.some.inj ((show Tryz.prog.globalNamed "swashplate/parts.scrap" = some 1 by kernel_rfl).symm.trans hg')
 obtain rfl:=Option.some.inj ((show(Tryz.prog.globals[0]?).map (·.type)=some 175 by kernel_rfl).symm.trans ht)
 obtain rfl:=Option.some.inj ((show(Tryz.prog.globals[1]?).map (·.type)=some 175 by kernel_rfl).symm.trans ht')
 have h1:=pair_laid hg hv (by kernel_rfl) (show Tryz.prog.underlying 3=some (.int .i64) by kernel_rfl) Ty.cz3 hd
 have h0:=pair_laid hg' hv' (by kernel_rfl) (show Tryz.prog.underlying 3=some (.int .i64) by kernel_rfl) Ty.cz3 hd'
 intro k v hk
 have hk':(if k=0 then some (V.ip 2 [[.int .i64 (-1),.int .i64 (-1)]] 0 0)else if k=1 then some (.ip 2 [[.int .i64 (-2),.int .i64 (-2)]] 0 0)else none)=some v:=hk
 split at hk'
 ·rename_i e; subst e; cases hk'; exact h1
 ·split at hk'
  ·rename_i e; subst e; cases hk'; exact h0
  ·cases hk'
end Go.Sx
end
end
