/- A part of a proof; no conditions. -/
import Derived.SizedLaws
import Derived.Test.YtegiclpanpmkdaaGreatDoorR07
import Derived.ProofKit
import Derived.LaidMore
import Derived.OpenShut
import Derived.Test.YtegiclpanpmkdaaGreatDoorR38
set_option linter.all false
set_option maxRecDepth 100000
set_option maxHeartbeats 8000000
noncomputable section
section
namespace Go.Sx
open Go.RowKit
variable [aO]
def vR(P:Program):List Field->Nat->Nat->Bool
 | [],o,n=>o == n
 | fl::r,o,n=>fl.offset == o && vR P r (o+P.cellsOf fl.type) n
def plain(P:Program):Nat->TypeId->Bool
 | 0,_=>false
 | f+1,t=>match P.underlying t with
  | some .bool=>true
  | some (.int _)=>true
  | some (.slice e)=>decide (0<P.cellsOf e) && plain P f e
  | some (.struct fs)=>vR P fs.toList 0 (P.cellsOf t) && fs.toList.all fun fl=>plain P f fl.type
  | some (.array n e)=>decide (n * P.cellsOf e=P.cellsOf t) && plain P f e
  | _=>false
def iX(P:Program):Nat->TypeId->List V->Prop
 | 0,_,_=>False
 | f+1,t,vs=>match P.underlying t with
  | some .bool=>∃b,vs=[.bool b]
  | some (.int k)=>∃n,vs=[.int k n]/\(Lit.int k n).wf=true
  | some (.slice e)=>∃els,vs=[.sl (P.cellsOf e) els]/\els.length<=maxLen/\els.length * P.bytesOf e<=reachBytes/\∀row∈els,iX P f e row
  | some (.struct fs)=>vs.length=P.cellsOf t/\∀fl∈fs.toList,iX P f fl.type ((vs.drop fl.offset).take (P.cellsOf fl.type))
  | some (.array n e)=>vs.length=P.cellsOf t/\∀i,i<n->iX P f e ((vs.drop (i * P.cellsOf e)).take (P.cellsOf e))
  | _=>False
def CV(w:World)(vs:List V)(cs:List Value):Prop:=vs.length=cs.length/\∀i c,vs[i]?=some c->PV w (fun _=>False) c (cs.getD i gC)/\(cs.getD i gC).oneCell'=true
theorem CV.nil(w:World):CV w [] []:=⟨rfl,fun i c h=>by simp at h⟩
theorem CV.append{w:World}{a b:List V}{x y:List Value}(h:CV w a x)(k:CV w b y):CV w (a++b) (x++y):=by
 refine⟨by simp [h.1,k.1],fun i c hc=>?_⟩;rw [List.getElem?_append]at hc;split at hc
 ·rename_i hi;have:=h.2 i c hc;rw [List.getD_eq_getElem?_getD,List.getElem?_append_left (by rw [<-h.1];exact hi),<-List.getD_eq_getElem?_getD];exact this
 ·rename_i hi;have:=k.2 _ c hc;rw [List.getD_eq_getElem?_getD,List.getElem?_append_right (by rw [<-h.1];omega),<-h.1,<-List.getD_eq_getElem?_getD];exact this
theorem CV.one{w:World}{x:V}{v:Value}(h:PV w (fun _=>False) x v)(h1:v.oneCell'=true):CV w [x] [v]:=by
 refine⟨rfl,fun i c hc=>?_⟩;cases i with
 | zero=>simp at hc;subst hc;exact⟨h,h1⟩
 | succ i=>simp at hc
theorem RF{α β:Type}{f:α->Option β}:∀{l:List α} {ys:List β},l.mapM f=some ys->∀x∈l,∃y,f x=some y
 | [],_,_,x,hx=>by simp at hx
 | a::l,ys,h,x,hx=>by
  rw [List.mapM_cons]at h
  cases ha:f a with
  | none=>simp [ha]at h
  | some b=>
   simp only [ha,Option.bind_eq_bind,Option.bind_some]at h
   cases hl:l.mapM f with
   | none=>simp [hl]at h
   | some bs=>
    rcases List.mem_cons.1 hx with rfl|hx
    ·exact⟨b,ha⟩
    ·exact RF hl x hx
def O2{H:Type}(P:Program)(t:TypeId)(d:DataW H):Prop:=∀n∈d.weights P t,n<=reachBytes
theorem EP{α H:Type}{P:Program}{f:α->Option (DataW H × List MemPlace)}{ty:α->TypeId}:∀{l:List α} {ys:List (DataW H × List MemPlace)},l.mapM f=some ys->(∀n∈DataW.weightsEach P (l.map ty) (ys.map (·.1)),n<=reachBytes)->∀x∈l,∃y,f x=some y/\O2 P (ty x) y.1
 | [],_,_,_,x,hx=>by simp at hx
 | a::l,ys,h,hw,x,hx=>by
  rw [List.mapM_cons]at h
  cases ha:f a with
  | none=>simp [ha]at h
  | some b=>
   simp only [ha,Option.bind_eq_bind,Option.bind_some]at h
   cases hl:l.mapM f with
   | none=>simp [hl]at h
   | some bs=>
    simp only [hl,Option.bind_some,Option.pure_def,Option.some.injEq]at h
    subst h
    simp only [List.map_cons,DataW.weightsEach,List.mem_append]at hw
    rcases List.mem_cons.1 hx with rfl|hx
    ·exact⟨b,ha,fun n hn=>hw n (.inl hn)⟩
    ·exact EP hl (fun n hn=>hw n (.inr hn)) x hx
theorem CR{H:Type}{P:Program}{e:TypeId}:∀{ds:List (DataW H)},(∀n∈DataW.weightsAll P e ds,n<=reachBytes)->∀d∈ds,O2 P e d
 | [],_,d,hd=>by simp at hd
 | a::ds,hw,d,hd=>by
  simp only [DataW.weightsAll,List.mem_append]at hw
  rcases List.mem_cons.1 hd with rfl|hd
  ·exact fun n hn=>hw n (.inl hn)
  ·exact CR (fun n hn=>hw n (.inr hn)) d hd
theorem mapM_mem{α β:Type}{f:α->Option β}:∀{l:List α} {ys:List β},l.mapM f=some ys->∀x∈l,∃y∈ys,f x=some y
 | [],_,_,x,hx=>by simp at hx
 | a::l,ys,h,x,hx=>by
  rw [List.mapM_cons]at h;cases ha:f a with
  | none=>simp [ha]at h
  | some b=>
   simp only [ha,Option.bind_eq_bind,Option.bind_some]at h;cases hl:l.mapM f with
   | none=>simp [hl]at h
   | some bs=>
    simp only [hl,Option.bind_some,Option.pure_def,Option.some.injEq]at h;subst h;rcases List.mem_cons.1 hx with rfl|hx
    ·exact⟨b,by simp,ha⟩
    ·obtain⟨y,hy,e⟩:=mapM_mem hl x hx;exact⟨y,by simp [hy],e⟩
section
variable {H:Type} {enc:TypeId × Value->H} {P:Program} {w:World} {base:Nat} {spare:Nat->Bool} {v0:Bool}
theorem tw{f:Nat}{cs:List Value}(ih:∀(fl:Field),plain P f fl.type=true->∀(cs:List Value),(∃fuel x,DataW.trod enc P w base spare v0 fuel fl.type cs=some x/\O2 P fl.type x.1)->cs.length=P.cellsOf fl.type->∃vs,CV w vs cs/\iX P f fl.type vs) :
  ∀(fs:List Field) (o n:Nat),vR P fs o n=true->cs.length=n->o<=n->(∀fl∈fs,plain P f fl.type=true/\∃fuel x,DataW.trod enc P w base spare v0 fuel fl.type ((cs.drop fl.offset).take (P.cellsOf fl.type))=some x/\O2 P fl.type x.1)->
   ∃vs,CV w vs (cs.drop o)/\(∀fl∈fs,o<=fl.offset/\iX P f fl.type ((vs.drop (fl.offset - o)).take (P.cellsOf fl.type)))
 | [],o,n,ht,hl,ho,_=>by simp only [vR,beq_iff_eq]at ht;refine⟨[],?_,by simp⟩;rw [List.drop_eq_nil_of_le (by omega)];exact .nil w
 | fl::fs,o,n,ht,hl,ho,v3=>by
  simp only [vR,Bool.and_eq_true,beq_iff_eq]at ht;obtain⟨rfl,ht⟩:=ht;obtain⟨hp,hr⟩:=v3 fl (by simp);have hle:fl.offset+P.cellsOf fl.type<=n:=by
   have:∀(fs:List Field) (o:Nat),vR P fs o n=true->o<=n:=by
    intro fs
    induction fs with
    | nil=>intro o h;simp only [vR,beq_iff_eq]at h;omega
    | cons g r ih2=>intro o h;simp only [vR,Bool.and_eq_true,beq_iff_eq]at h;have:=ih2 _ h.2;omega
   exact this fs _ ht
  have hlen:((cs.drop fl.offset).take (P.cellsOf fl.type)).length=P.cellsOf fl.type:=by simp;omega
  obtain⟨v1,c1,t1⟩:=ih fl hp _ hr hlen;obtain⟨v2,c2,t2⟩:=tw ih fs _ n ht hl hle (fun g hg=>v3 g (by simp [hg]));have oQ:v1.length=P.cellsOf fl.type:=by rw [c1.1,hlen]
  refine⟨v1++v2,?_,fun g hg=>?_⟩
  ·have:=c1.append c2
   rwa [<-List.drop_drop,List.take_append_drop]at this
  ·rcases List.mem_cons.1 hg with rfl|hg
   ·refine⟨Nat.le_refl _,?_⟩;rw [Nat.sub_self,List.drop_zero,List.take_append_of_le_length (by omega),List.take_of_length_le (by omega)];exact t1
   ·obtain⟨h1,h2⟩:=t2 g hg;refine⟨by omega,?_⟩;rw [List.drop_append,List.drop_eq_nil_of_le (by omega),List.nil_append,oQ,show g.offset - fl.offset - P.cellsOf fl.type=g.offset - (fl.offset+P.cellsOf fl.type) by omega];exact h2
theorem vS{f:Nat}{e:TypeId}{cs:List Value}(ih:∀(cs:List Value),(∃fuel x,DataW.trod enc P w base spare v0 fuel e cs=some x/\O2 P e x.1)->cs.length=P.cellsOf e->∃vs,CV w vs cs/\iX P f e vs){n:Nat}
  (hl:cs.length=n * P.cellsOf e) (v3:∀i,i<n->∃fuel x,DataW.trod enc P w base spare v0 fuel e ((cs.drop (i * P.cellsOf e)).take (P.cellsOf e))=some x/\O2 P e x.1) :
  ∀k,k<=n->∃vs,CV w vs (cs.take (k * P.cellsOf e))/\∀i,i<k->iX P f e ((vs.drop (i * P.cellsOf e)).take (P.cellsOf e))
 | 0,_=>⟨[],by simpa using CV.nil w,fun i h=>by omega⟩
 | k+1,hk=>by
  obtain⟨v1,c1,t1⟩:=vS ih hl v3 k (by omega);have v4:(k+1) * P.cellsOf e<=n * P.cellsOf e:=Nat.mul_le_mul_right _ hk;rw [Nat.add_mul,Nat.one_mul]at v4;obtain⟨v2,c2,t2⟩:=ih _ (v3 k (by omega)) (by simp;omega);have oQ:v1.length=k * P.cellsOf e:=by rw [c1.1];simp;omega
  have oR:v2.length=P.cellsOf e:=by rw [c2.1];simp;omega
  refine⟨v1++v2,?_,fun i hi=>?_⟩
  ·have:=c1.append c2;rw [Nat.add_mul,Nat.one_mul,List.take_add];exact this
  ·by_cases va:i<k
   ·have h1:(i+1) * P.cellsOf e<=k * P.cellsOf e:=Nat.mul_le_mul_right _ va;rw [Nat.add_mul,Nat.one_mul]at h1;rw [List.drop_append_of_le_length (by omega),List.take_append_of_le_length (by simp;omega)];exact t1 i va
   ·have:i=k:=(by omega);subst this;rw [List.drop_append,List.drop_eq_nil_of_le (by omega),List.nil_append,oQ,Nat.sub_self,List.drop_zero,List.take_of_length_le (by omega)];exact t2
theorem lG:∀(f:Nat) (t:TypeId) (cs:List Value),plain P f t=true->(∃fuel x,DataW.trod enc P w base spare v0 fuel t cs=some x/\O2 P t x.1)->cs.length=P.cellsOf t->∃vs,CV w vs cs/\iX P f t vs
 | 0,t,cs,hp,_,_=>by simp [plain]at hp
 | f+1,t,cs,hp,⟨fuel,x,hx,GU⟩,hlen=>by
  cases fuel with
  | zero=>simp [DataW.trod]at hx
  | succ fuel=>
  simp only [plain]at hp;cases hu:P.underlying t with
  | none=>simp [hu]at hp
  | some u=>
  rw [hu]at hp;simp only [iX,hu];cases u<;>simp only at hp ⊢<;>try (cases hp;done)
  case bool=>
   unfold DataW.trod at hx;rw [hu]at hx;split at hx<;>simp_all;refine⟨_,.one (.bool _) rfl,?_⟩;simp
  case int k=>
   unfold DataW.trod at hx;rw [hu]at hx;split at hx<;>simp_all;obtain⟨⟨rfl,h1⟩,_⟩:=hx;exact⟨_,.one (.int _ _) rfl,_,rfl,h1⟩
  case slice e=>
   simp only [Bool.and_eq_true,decide_eq_true_eq]at hp;rcases DataW.trod_slice hu hx with⟨rfl,rfl⟩|⟨a,len,cap,elems,rest,n,hn,rfl,rfl,hb,hl,hm,ah3,v8,z3,z4⟩
   ·exact⟨_,.one (.xV (P.cellsOf e) none 0) rfl,[],rfl,by simp,by simp,by simp⟩
   by_cases h0:len=0
   ·subst h0;exact⟨_,.one (.xV (P.cellsOf e) (some a) cap) rfl,[],rfl,by simp,by simp,by simp⟩
   unfold O2 DataW.weights at GU;rw [hu]at GU;simp only [List.length_map,List.mem_cons,List.mem_append]at GU;have abY:=GU _ (.inl rfl);have ry:elems.length * P.bytesOf e<=reachBytes:=Nat.le_trans (Nat.mul_le_mul_right _ (Nat.le_add_right _ _)) abY;have vr:∀d∈elems.map (·.1),O2 P e d:=CR fun n hn=>GU n (.inr (.inl hn));have each:∀i,i<len->∃row vs,w.cells? base (a.add (i * P.cellsOf e)) (P.cellsOf e)=some row/\row.length=P.cellsOf e/\CV w vs row/\iX P f e vs:=by intro i hi;have h1:=v8 i hi;have h2:elems[i]?=some elems[i]:=List.getElem?_eq_getElem (by omega);rw [h2,Option.bind_eq_some_iff]at h1;obtain⟨row,h3,h4⟩:=h1;have h5:=(World.cells?_some h3).2.1;obtain⟨vs,c,ty⟩:=lG f e row hp.2 ⟨n,_,h4,vr _ (List.mem_map.2 ⟨_,List.getElem_mem _,rfl⟩)⟩ h5;exact⟨row,vs,h3,h5,c,ty⟩
   obtain⟨CS,_,g1,g2,_,_⟩:=each 0 (by omega);have KC:a.spot=none:=by
    have h3:=(World.cells?_some g1).2.2 0 hp.1;simp only [Nat.zero_mul]at h3;have h4:CS[0]?=some CS[0]:=List.getElem?_eq_getElem (by omega);have e0:(a.add 0).add 0=a:=(by simp [Addr.add]);rw [h4,e0]at h3;unfold World.cell? at h3;split at h3
    ·split at h3
     ·cases h3
     ·rename_i hs;simpa using hs
    ·cases h3
   have v4:a.block<w.heap.size:=by
    have h3:=(World.cells?_some g1).2.2 0 hp.1;simp only [Nat.zero_mul]at h3;have h4:CS[0]?=some CS[0]:=List.getElem?_eq_getElem (by omega);have e0:(a.add 0).add 0=a:=(by simp [Addr.add]);rw [h4,e0]at h3;unfold World.cell? at h3;split at h3
    ·rename_i hh;exact(Array.getElem?_eq_some_iff.1 hh).1
    ·cases h3
   have ah4:∀i j,(a.add (i * P.cellsOf e)).add j=⟨a.block,a.off+i * P.cellsOf e+j,none⟩:=by
    intro i j;obtain⟨b,off,sp⟩:=a;simp only at KC;subst KC;unfold Addr.add;by_cases h1:i * P.cellsOf e=0
    ·rw [if_pos h1];by_cases h2:j=0
     ·rw [if_pos h2];simp [h1,h2]
     ·rw [if_neg h2];simp [h1]
    ·rw [if_neg h1];by_cases h2:j=0
     ·rw [if_pos h2];simp [h2]
     ·rw [if_neg h2]
   have rows:∀k,k<=len->∃els:List (List V),els.length=k/\∀i row,els[i]?=some row->iX P f e row/\∃vs,w.cells? base (a.add (i * P.cellsOf e)) (P.cellsOf e)=some vs/\vs.length=P.cellsOf e/\CV w row vs:=by
    intro k
    induction k with
    | zero=>intro _;exact⟨[],rfl,by simp⟩
    | succ k ih=>
     intro hk;obtain⟨els,h1,h2⟩:=ih (by omega);obtain⟨row,vs,h3,h4,h5,h6⟩:=each k (by omega);refine⟨els++[vs],by simp [h1],fun i r hr=>?_⟩;rw [List.getElem?_append]at hr;split at hr
     ·exact h2 i r hr
     ·rename_i hi;have:i - els.length=0:=by
       cases hd:i - els.length with
       | zero=>rfl
       | succ m=>rw [hd]at hr;simp at hr
      rw [this]at hr;simp only [List.getElem?_cons_zero,Option.some.injEq]at hr;subst hr;have:i=k:=(by omega);subst this;exact⟨h6,row,h3,h4,h5⟩
   obtain⟨els,l1,l2⟩:=rows len (Nat.le_refl _);refine⟨[.sl (P.cellsOf e) els],.one ?_ rfl,els,rfl,by omega,by rw [l1,<-ah3];exact ry,fun row v7=>?_⟩
   ·have v9:∀i j row c,els[i]?=some row->row[j]?=some c->∃u,w.cell? ⟨a.block,a.off+i * P.cellsOf e+j,none⟩=some u/\u.oneCell'=true/\PV w (fun _=>False) c u:=by
     intro i j row c hr hc;obtain⟨_,vs,k1,k2,k3⟩:=l2 i row hr;obtain⟨k4,k5⟩:=k3.2 j c hc;have hj:j<P.cellsOf e:=(by have:=(List.getElem?_eq_some_iff.1 hc).1;rw [k3.1,k2]at this;exact this);have:=(World.cells?_some k1).2.2 j hj;rw [ah4,List.getElem?_eq_getElem (by omega)]at this;refine⟨_,this,?_,?_⟩
     ·have e1:vs.getD j gC=vs[j]:=(by simp [List.getD,List.getElem?_eq_getElem (show j<vs.length by omega)]);rw [<-e1];exact k5
     ·have e1:vs.getD j gC=vs[j]:=(by simp [List.getD,List.getElem?_eq_getElem (show j<vs.length by omega)]);rw [<-e1];exact k4
    have:=PV.sl (w:=w) (A:=fun _=>False) (P.cellsOf e) els a.block a.off cap (fun i j=>(w.cell? ⟨a.block,a.off+i * P.cellsOf e+j,none⟩).getD gC) (by omega) v4 (fun h=>h)
     (fun row v7=>by obtain⟨i,hi⟩:=List.getElem?_of_mem v7;obtain⟨_,vs,k1,k2,k3⟩:=l2 i row hi;rw [k3.1,k2])
     (fun i j row c hr hc=>by obtain⟨u,k1,k2,k3⟩:=v9 i j row c hr hc;rw [k1];exact⟨rfl,k2⟩)
     (fun i j row c hr hc=>by obtain⟨u,k1,k2,k3⟩:=v9 i j row c hr hc;rw [k1];exact k3)
    rw [l1]at this;obtain⟨b,off,sp⟩:=a;simp only at KC;subst KC;exact this
   ·obtain⟨i,hi⟩:=List.getElem?_of_mem v7;exact(l2 i row hi).1
  case struct fs=>
   simp only [Bool.and_eq_true,List.all_eq_true]at hp;unfold DataW.trod at hx;rw [hu]at hx;simp only at hx;split at hx<;>try (simp_all;done)
   rename_i hl;simp only [Option.map_eq_some_iff]at hx;obtain⟨ys,hys,rfl⟩:=hx;unfold O2 DataW.weights at GU;rw [hu]at GU;simp only at GU;obtain⟨vs,c,ty⟩:=tw (f:=f) (fun fl hfl cs h1 h2=>lG f fl.type cs hfl h1 h2) fs.toList 0 (P.cellsOf t) hp.1 hl (Nat.zero_le _) (fun fl hfl=>⟨hp.2 fl hfl,fuel,EP hys GU fl hfl⟩);rw [List.drop_zero]at c;exact⟨vs,c,by rw [c.1,hl],fun fl hfl=>by simpa using (ty fl hfl).2⟩
  case array n e=>
   simp only [Bool.and_eq_true,decide_eq_true_eq]at hp;unfold DataW.trod at hx;rw [hu]at hx;simp only at hx;split at hx<;>try (simp_all;done)
   rename_i hl;simp only [Option.map_eq_some_iff]at hx;obtain⟨ys,hys,rfl⟩:=hx;unfold O2 DataW.weights at GU;rw [hu]at GU;simp only at GU;obtain⟨vs,c,ty⟩:=vS (f:=f) (e:=e) (fun cs h1 h2=>lG f e cs hp.2 h1 h2) (n:=n) (by rw [hl,hp.1]) (fun i hi=>⟨fuel,by obtain⟨y,hy,ey⟩:=mapM_mem hys i (by simpa using hi);exact⟨y,ey,CR GU _ (List.mem_map.2 ⟨y,hy,rfl⟩)⟩⟩) n (Nat.le_refl _)
   rw [List.take_of_length_le (by rw [hl,hp.1];exact Nat.le_refl _)]at c;exact⟨vs,c,by rw [c.1,hl],ty⟩
end
theorem eX{α:Type}{R:α->List V}:∀{els:List (List V)},(∀row∈els,∃a,row=R a)->∃l:List α,els=l.map R
 | [],_=>⟨[],rfl⟩
 | r::els,h=>by obtain⟨a,ha⟩:=h r (by simp);obtain⟨l,hl⟩:=eX (els:=els) (fun row hr=>h row (by simp [hr]));exact⟨a::l,by simp [ha,hl]⟩
def og(P:Program)(g:Nat)(t:TypeId)(x:V):Prop:=if cB P t=true then ∃vs,x=.agg vs/\iX P g t vs else iX P g t [x]
def M5(P:Program)(g:Nat)(t:TypeId):Bool:=plain P g t && (cB P t || P.cellsOf t == 1) && P.readableRec t && decide (t<P.types.size)
section
variable {H:Type} {enc:TypeId × Value->H} {P:Program} {w:World} {spare:Nat->Bool} {v0:Bool}
theorem RG{g:Nat}{t:TypeId}{v:Value}{d:DataW H}{ps:List MemPlace}{r:Reach}{b0:Nat}(hb:M5 P g t=true)(hok:Value.okWide P w r b0 t v)(hd:DataW.Trod enc P w 0 spare v0 t v d ps)(GU:O2 P t d) :
  ∃x,PV w (fun _=>False) x v/\og P g t x:=by
 simp only [M5,Bool.and_eq_true,Bool.or_eq_true,beq_iff_eq]at hb;obtain⟨⟨⟨hp,hc⟩,_⟩,_⟩:=hb;obtain⟨fuel,hx⟩:=hd;by_cases ha:cB P t=true
 ·have:∃cs,v=.agg cs/\cs.size=P.cellsOf t:=by
   unfold Value.okWide at hok;unfold cB at ha;cases hu:P.underlying t with
   | none=>simp [hu]at ha
   | some u=>
    rw [hu]at hok ha;cases u<;>simp at ha hok
    ·obtain⟨cs,h1,h2,_⟩:=hok;exact⟨cs,h1,h2⟩
    ·obtain⟨cs,h1,h2,_⟩:=hok;exact⟨cs,h1,h2⟩
  obtain⟨cs,rfl,hs⟩:=this;obtain⟨vs,c,ty⟩:=lG g t cs.toList hp ⟨fuel,_,hx,GU⟩ (by simpa using hs);refine⟨.agg vs,.agg vs cs (by simpa using c.1.symm) fun i x hi=>?_,?_⟩
  ·have:=(c.2 i x hi).1;simpa [Array.getD_eq_getD_getElem?,List.getD_eq_getElem?_getD]using this
  ·unfold og;rw [if_pos ha];exact⟨vs,rfl,ty⟩
 ·have vx:P.cellsOf t=1:=by rcases hc with h|h;exact absurd h ha;exact h
  have hv:v.cells.toList=[v]:=by
   have vy:∀cs,v≠.agg cs:=by
    rintro cs rfl;unfold Value.okWide at hok;unfold cB at ha;cases hu:P.underlying t with
    | none=>cases g<;>simp [plain,hu]at hp
    | some u=>
     rw [hu]at hok ha;cases u<;>simp [Cell.okWide,Cell.ok,hu]at ha hok
   cases v<;>first|rfl|exact absurd rfl (vy _)
  rw [hv]at hx;obtain⟨vs,c,ty⟩:=lG g t [v] hp ⟨fuel,_,hx,GU⟩ (by simp [vx]);have hl:=c.1;cases vs with
  | nil=>simp at hl
  | cons x r=>
   have:r=[]:=List.eq_nil_of_length_eq_zero (by simpa using hl);subst this;refine⟨x,by simpa using (c.2 0 x rfl).1,?_⟩;unfold og;rw [if_neg ha];exact ty
theorem Bm{g:Nat}{r:Reach}{b0:Nat}:∀(ts:List TypeId) (vs:List Value) (ds:List (DataW H)) (ps:List MemPlace),DataW.TrodAll enc P w 0 spare v0 ts vs ds ps->(∀n∈DataW.weightsEach P ts ds,n<=reachBytes)->(∀(j:Nat) t v,ts[j]?=some t->vs[j]?=some v->Value.okWide P w r b0 t v)->
  (ts.all (M5 P g))=true->vs.length=ts.length/\ds.length=ts.length/\∃xs:List V,xs.length=ts.length/\(∀(i:Nat) t x,ts[i]?=some t->xs[i]?=some x->og P g t x)/\∀(i:Nat) x,xs[i]?=some x->PV w (fun _=>False) x (vs.getD i gC)
 | [],[],[],ps,_,_,_,_=>⟨rfl,rfl,[],rfl,by simp,by simp⟩
 | t::ts,v::vs,d::ds,ps,h,v5,hok,hb=>by
  obtain⟨p,q,h1,h2,_⟩:=h;simp only [DataW.weightsEach,List.mem_append]at v5;simp only [List.all_cons,Bool.and_eq_true]at hb;obtain⟨x,hx,hty⟩:=RG hb.1 (hok 0 t v rfl rfl) h1 (fun n hn=>v5 n (.inl hn));obtain⟨e1,e2,xs,e3,e4,e5⟩:=Bm ts vs ds q h2 (fun n hn=>v5 n (.inr hn)) (fun j t v ht hv=>hok (j+1) t v (by simpa using ht) (by simpa using hv)) hb.2;refine⟨by simp [e1],by simp [e2],x::xs,by simp [e3],?_,?_⟩
  ·intro i t' x' ht hx';cases i with
   | zero=>simp at ht hx';subst ht hx';exact hty
   | succ i=>exact e4 i t' x' (by simpa using ht) (by simpa using hx')
  ·intro i x' hx';cases i with
   | zero=>simp at hx';subst hx';simpa using hx
   | succ i=>simpa using e5 i x' (by simpa using hx')
 | [],_::_,_,_,h,_,_,_=>h.elim
 | [],[],_::_,_,h,_,_,_=>h.elim
 | _::_,[],_,_,h,_,_,_=>h.elim
 | _::_,_::_,[],_,h,_,_,_=>h.elim
theorem yI{g:Nat}{w':World}(hl:laidOutB P=true)(hb:Below w.heap.size w w'):∀(ts:List TypeId) (vs:List Value) (ds:List (DataW H)) (ps:List MemPlace),DataW.TrodAll enc P w 0 (fun _=>true) true ts vs ds ps->(ts.all (M5 P g))=true->(∀x∈ps,x.block<w.heap.size)->
  DataW.TrodAll enc P w' 0 (fun b=>decide (b<w.heap.size)) true ts vs ds ps
 | [],[],[],ps,h,_,_=>h
 | t::ts,v::vs,d::ds,ps,h,ha,v4=>by obtain⟨p,q,h1,h2,rfl⟩:=h;simp only [List.all_cons,Bool.and_eq_true]at ha;have h3:=ha.1;simp only [M5,Bool.and_eq_true,decide_eq_true_eq]at h3;exact⟨p,q,Below.trod hl h3.1.2 h3.2 h1 hb (fun x hx=>v4 x (by simp [hx])),yI hl hb ts vs ds q h2 ha.2 (fun x hx=>v4 x (by simp [hx])),rfl⟩
 | [],_::_,_,_,h,_,_=>h.elim
 | [],[],_::_,_,h,_,_=>h.elim
 | _::_,[],_,_,h,_,_=>h.elim
 | _::_,_::_,[],_,h,_,_=>h.elim
end
end Go.Sx
end
section
namespace Go.Sx
open Go.RowKit
variable [aO]
section
variable {P:Program} {g:Nat} {t:TypeId} {vs:List V}
theorem aJ{k o:Nat}{ft:TypeId}(h:iX P (g+1) t vs)(hf:cG P t k=some (o,ft)):iX P g ft ((vs.drop o).take (P.cellsOf ft)):=by
 simp only [iX]at h;unfold cG at hf;cases hu:P.underlying t with
 | none=>simp [hu]at hf
 | some u=>
  rw [hu]at h hf;cases u<;>simp only at h hf<;>try (cases hf;done)
  rename_i fs;cases hk:fs[k]? with
  | none=>simp [hk]at hf
  | some fl=>
   simp only [hk,Option.map_some,Option.some.injEq,Prod.mk.injEq]at hf;obtain⟨rfl,rfl⟩:=hf;exact h.2 fl (Array.mem_toList_iff.2 (Array.mem_of_getElem? hk))
theorem dW(h:iX P (g+1) t vs)(ha:cB P t=true):vs.length=P.cellsOf t:=by
 simp only [iX]at h;unfold cB at ha;cases hu:P.underlying t with
 | none=>simp [hu]at ha
 | some u=>
  rw [hu]at h ha;cases u<;>simp only at h ha<;>first|(cases ha;done)|exact h.1
theorem XC{k:IntKind}(h:iX P (g+1) t vs)(hk:wI P t=some k):∃n,vs=[.int k n]/\(Lit.int k n).wf=true:=by
 simp only [iX]at h;unfold wI at hk;cases hu:P.underlying t with
 | none=>simp [hu]at hk
 | some u=>
  rw [hu]at h hk;cases u<;>simp only at h hk<;>try (cases hk;done)
  cases hk;exact h
theorem ia{e:TypeId}(h:iX P (g+1) t vs)(hk:cm P t=some e):∃els,vs=[.sl (P.cellsOf e) els]/\els.length * P.bytesOf e<=140737488351232/\∀row∈els,iX P g e row:=by
 simp only [iX]at h;unfold cm at hk;cases hu:P.underlying t with
 | none=>simp [hu]at hk
 | some u=>
  rw [hu]at h hk;cases u<;>simp only at h hk<;>try (cases hk;done)
  cases hk;obtain⟨els,h1,_,h2,h3⟩:=h;exact⟨els,h1,by simpa [reachBytes]using h2,h3⟩
theorem Bn{x:V}(h:og P g t x)(ha:cB P t=false):iX P g t [x]:=by unfold og at h;rw [if_neg (by rw [ha];decide)]at h;exact h
theorem M6{x:V}(h:og P g t x)(ha:cB P t=true):∃vs,x=.agg vs/\iX P g t vs:=by unfold og at h;rw [if_pos ha]at h;exact h
end
end Go.Sx
end
section
namespace Go.Sx
open Go.RowKit
variable [aO]
theorem yF{C:Checked}{os:Os}(started:os.Started){H:Type}{enc:TypeId × Value->H}{f:FuncId}{fn:Func}{s:ChangeSpec}{S:aB}{X:World->Array Value->Prop}(g:Nat)(tb:TypeId)
  (hX:∀(w w':World) (args:Array Value),w.heap=w'.heap->X w args->X w' args) (vP:∀w args,X w args->GOK w (fun _=>False))
  (hown:ownKnob C.prog.godebug=none) (hl:laidOutB C.prog=true) (vV:C.prog.inits.idxOf? f=none) (hf:C.prog.funcs[f]?=some fn) (vW:dM C.prog f (.pure S))
  (hvars:s.vars=[]) (v6:∀ds:List (DataW H),ds.length=fn.params.size->s.fn H ds={results:=[.lit (.bool true)],args:=ds})
  (MS:fn.resultTypes = #[tb]) (vX:C.prog.underlying tb=some .bool) (Af:fn.params.toList.all (M5 C.prog g)=true)
  (ah5:∀xs:List V,xs.length=fn.params.size->(∀(i:Nat) t x,fn.params.toList[i]?=some t->xs[i]?=some x->og C.prog g t x)->∃d,S.pre d/\S.res d=.bool true/\S.enc d=xs)
  (witness:∃(w:World) (tape:Tape) (i:Input),w.os=os/\(w.forCall tape i).Shaped C.prog/\i.vars=[]/\Input.okWide C.prog (w.forCall tape i) .any w.heap.size f i/\
   ((s.pre enc C.prog fn [] false (w.forCall tape i).memory i.args/\X (w.forCall tape i).memory i.args)/\sizedMet enc C.prog fn (OpenSpec.ofChange s) false (w.forCall tape i).memory i.args)/\({}:Assume).holds C.prog (lone (Frame.enter C.prog f i.args .normal) [] (w.forCall tape i))) :
  ReturnsInHanded {} C os f .any (fun w args=>(s.pre enc C.prog fn [] false w args/\X w args)/\sizedMet enc C.prog fn (OpenSpec.ofChange s) false w args) (s.post enc C.prog fn false true false false):=by
 refine returnsInHanded_of_change_and hX hown started vV hf witness ?_;intro W base args ds gs before vb hW _ v5 hx _;have hW':=hW;obtain⟨p,q,hA,hV,rfl,hfz,z5⟩:=hW;rw [hvars]at hV;have z0:gs=[]/\q=[]:=by
  cases gs with
  | nil=>exact⟨rfl,hV⟩
  | cons a b=>exact hV.elim
 obtain⟨rfl,rfl⟩:=z0;rw [show s.plain.varTypes C.prog=[] by unfold ChangeSpec.plain DataSpec.varTypes;simp [hvars],List.append_nil,List.append_nil,List.all_eq_true]at v5;obtain⟨e1,e2,xs,e3,e4,e5⟩:=Bm (g:=g) _ _ _ _ hA (fun n hn=>by simpa using v5 n hn) (fun j t v ht hv=>vb j t v (by simpa using ht) (by simpa using hv)) Af;obtain⟨d,z1,z2,Cx⟩:=ah5 xs (by simpa using e3) e4;refine((vW.pure S rfl) d z1 W (fun _=>False) args (vP _ _ hx) (fun _ h=>h.elim) (by rw [Cx,e3];simpa using e1) (fun i c hc=>?_)).mono fun e W' vd=>?_
 ·rw [Cx]at hc;have:=e5 i c hc;simpa [Array.getD_eq_getD_getElem?,List.getD_eq_getElem?_getD]using this
 obtain⟨v,rfl,hb,hv⟩:=vd;rw [z2]at hv;cases hv;refine⟨_,rfl,ds,[],p++[],[],p,[],hW',?_,?_,?_,hb.frame _,fun h=>by cases h⟩
 ·rw [MS];have h1:s.fn H (ds++[])={results:=[.lit (.bool true)],args:=ds}:=by rw [List.append_nil];exact v6 ds (by simpa using e2)
  rw [h1];exact⟨[],[],shut_bool vX true,rfl,rfl⟩
 ·have h1:s.fn H (ds++[])={results:=[.lit (.bool true)],args:=ds}:=by rw [List.append_nil];exact v6 ds (by simpa using e2)
  rw [h1];exact yI hl hb _ _ _ _ hA Af (fun x hx=>hW'.lt x (by simpa using hx))
 ·rw [hvars];have h1:s.fn H (ds++[])={results:=[.lit (.bool true)],args:=ds}:=by rw [List.append_nil];exact v6 ds (by simpa using e2)
  rw [h1];exact rfl
theorem Bo{P:Program}{w:World}{n:String}{g:Nat}{t e:TypeId}{cs:Array Value}{fuel:Nat}{a b:Int}{p:List MemPlace}(hg:P.globalNamed n=some g)(hv:w.var? P n=some cs)
  (ht:P.underlying t=some (.array 2 e)) (he:P.underlying e=some (.int .i64)) (hc:P.cellsOf e=1)
  (hd:DataW.trod (fun _=>()) P w 0 (fun _=>true) false fuel t cs.toList=some (.agg [.lit (.int .i64 a),.lit (.int .i64 b)],p)) :
  PV w (fun _=>False) (.ip 2 [[.int .i64 a,.int .i64 b]] 0 0) (.pointer (some ⟨g,0,none⟩)):=by
 obtain⟨xs,m,_,ex,_,hl,v8⟩:=DataW.trod_array ht hd;have h0:=v8 0 (by omega);have h1:=v8 1 (by omega)
 match xs,hl with
 | [x0,x1],_=>
  simp only [List.map_cons,List.map_nil,Prod.mk.injEq,DataW.agg.injEq,List.cons.injEq,and_true]at ex;obtain⟨⟨ex0,ex1⟩,_⟩:=ex;rw [hc]at h0 h1;simp only [List.getElem?_cons_zero,List.getElem?_cons_succ]at h0 h1;obtain⟨n0,c0,d0,_⟩:=DataW.trod_int he h0;obtain⟨n1,c1,d1,_⟩:=DataW.trod_int he h1;rw [d0]at ex0;rw [d1]at ex1;simp only [DataW.lit.injEq,Lit.int.injEq,true_and]at ex0 ex1;subst ex0;subst ex1;have g0:cs[0]?=some (.int .i64 a):=by have:((cs.toList.drop (0 * 1)).take 1)[0]?=some (.int .i64 a):=(by rw [c0];rfl);simpa using this
  have g1:cs[1]?=some (.int .i64 b):=by have:((cs.toList.drop (1 * 1)).take 1)[0]?=some (.int .i64 b):=(by rw [c1];rfl);simpa using this
  have k0:=World.var?_cell hg hv 0;have k1:=World.var?_cell hg hv 1;rw [g0]at k0;rw [g1]at k1;have hb:g<w.heap.size:=by
   cases hh:w.heap[g]? with
   | none=>simp [World.cell?,hh]at k0
   | some o=>exact(Array.getElem?_eq_some_iff.1 hh).1
  refine .ip 2 [[.int .i64 a,.int .i64 b]] 0 0 g 0 (fun _ j=>if j=0 then .int .i64 a else .int .i64 b) hb (fun h=>h) (fun row hr=>?_) (fun e j row c h1 h2=>?_) (fun e j row c h1 h2=>?_)
  ·simp at hr;subst hr;rfl
  ·match e,h1 with
   | 0,h1=>
    cases h1
    match j,h2 with
    | 0,h2=>exact⟨by simpa using k0,rfl⟩
    | 1,h2=>exact⟨by simpa using k1,rfl⟩
  ·match e,h1 with
   | 0,h1=>
    cases h1
    match j,h2 with
    | 0,h2=>cases h2;exact .int _ _
    | 1,h2=>cases h2;exact .int _ _
end Go.Sx
end
section
namespace Go.Sx
open Go.Proofs Go.RowKit
theorem bt{g:Nat}{vs:List V}(h:iX Tryz.prog (g+1) 3 vs):∃n,vs=[.int .i64 n]:=by obtain⟨n,h1,_⟩:=XC h Ty.ik3;exact⟨n,h1⟩
theorem RH{P:Program}{g:Nat}{t:TypeId}{vs:List V}(h:iX P (g+1) t vs)(hk:P.underlying t=some .bool):∃b,vs=[.bool b]:=by simp only [iX,hk]at h;exact h
theorem mq{g:Nat}{vs:List V}(h:iX Tryz.prog (g+1) 4 vs):∃n,vs=[.bool n]:=RH h (by kernel_rfl)
theorem aQ{vs:List V}(a n:Nat){l:List V}(h:(vs.drop a).take n=l):vs.drop a=l++vs.drop (a+n):=by rw [<-h,<-List.drop_drop,List.take_append_drop]
theorem RI{g:Nat}{vs:List V}(k:iX Tryz.prog (g+2) 23 vs):∃x:Sp,vs=[.int .i64 x.lo,.int .i64 x.hi]:=by have hl:=dW k (show cB Tryz.prog 23=true by kernel_rfl);rw [show Tryz.prog.cellsOf 23=2 by kernel_rfl]at hl;obtain⟨n0,e0⟩:=bt (g:=g) (aJ k (show cG Tryz.prog 23 0=some (0,3) by kernel_rfl));rw [Ty.iT]at e0;obtain⟨n1,e1⟩:=bt (g:=g) (aJ k (show cG Tryz.prog 23 1=some (1,3) by kernel_rfl));rw [Ty.iT]at e1;refine⟨⟨n0,n1⟩,?_⟩;have hz:vs.drop 2=[]:=List.drop_eq_nil_of_le (by omega);have h0:vs=vs.drop 0:=rfl;rw [h0,aQ 0 1 e0,aQ 1 1 e1,hz];simp
theorem RJ{g:Nat}{vs:List V}(k:iX Tryz.prog (g+3) 25 vs):∃x:cR,vs=x.row:=by have hl:=dW k Ty.ag7;rw [Ty.Xi]at hl;obtain⟨n0,e0⟩:=RI (g:=g) (aJ k Ty.P9);rw [Ty.Xh]at e0;obtain⟨n1,e1⟩:=RI (g:=g) (aJ k Ty.Qa);rw [Ty.Xh]at e1;obtain⟨n2,e2⟩:=RI (g:=g) (aJ k Ty.Qb);rw [Ty.Xh]at e2;obtain⟨n3,e3⟩:=mq (g:=g+1) (aJ k Ty.Qc);rw [Ty.Xg]at e3;obtain⟨n4,e4⟩:=mq (g:=g+1) (aJ k Ty.Qd);rw [Ty.Xg]at e4;refine⟨⟨n0,n1,n2,n3,n4⟩,?_⟩;have hz:vs.drop 8=[]:=List.drop_eq_nil_of_le (by omega);have h0:vs=vs.drop 0:=rfl;rw [h0,aQ 0 2 e0,aQ 2 2 e1,aQ 4 2 e2,aQ 6 1 e3,aQ 7 1 e4,hz];simp [cR.row]
theorem ah6{g:Nat}{vs:List V}(k:iX Tryz.prog (g+4) 77 vs):∃x:Fc,vs=x.row:=by have hl:=dW k Ty.azA;rw [Ty.ayT]at hl;obtain⟨n0,e0⟩:=bt (g:=g+2) (aJ k Ty.axb);rw [Ty.iT]at e0;obtain⟨n1,e1⟩:=bt (g:=g+2) (aJ k Ty.axc);rw [Ty.iT]at e1;obtain⟨n2,e2⟩:=bt (g:=g+2) (aJ k Ty.axd);rw [Ty.iT]at e2;obtain⟨n3,e3⟩:=bt (g:=g+2) (aJ k Ty.axe);rw [Ty.iT]at e3;obtain⟨n4,e4⟩:=RJ (g:=g) (aJ k Ty.axf);rw [Ty.Xi]at e4;refine⟨⟨n0,n1,n2,n3,n4⟩,?_⟩;have hz:vs.drop 12=[]:=List.drop_eq_nil_of_le (by omega);have h0:vs=vs.drop 0:=rfl;rw [h0,aQ 0 1 e0,aQ 1 1 e1,aQ 2 1 e2,aQ 3 1 e3,aQ 4 8 e4,hz];simp [Fc.row,cR.row]
theorem ah7{g:Nat}{vs:List V}(k:iX Tryz.prog (g+2) 78 vs):∃x:Wt,vs=x.row:=by have hl:=dW k Ty.azB;rw [Ty.ayU]at hl;obtain⟨n0,e0⟩:=bt (g:=g) (aJ k Ty.axg);rw [Ty.iT]at e0;obtain⟨n1,e1⟩:=bt (g:=g) (aJ k Ty.axh);rw [Ty.iT]at e1;obtain⟨n2,e2⟩:=bt (g:=g) (aJ k Ty.axi);rw [Ty.iT]at e2;obtain⟨n3,e3⟩:=mq (g:=g) (aJ k Ty.axj);rw [Ty.Xg]at e3;obtain⟨n4,e4⟩:=mq (g:=g) (aJ k Ty.axk);rw [Ty.Xg]at e4;refine⟨⟨n0,n1,n2,n3,n4⟩,?_⟩;have hz:vs.drop 5=[]:=List.drop_eq_nil_of_le (by omega);have h0:vs=vs.drop 0:=rfl;rw [h0,aQ 0 1 e0,aQ 1 1 e1,aQ 2 1 e2,aQ 3 1 e3,aQ 4 1 e4,hz];simp [Wt.row]
theorem ah8{g:Nat}{vs:List V}(k:iX Tryz.prog (g+3) 80 vs):∃x:Sg,vs=x.row:=by have hl:=dW k Ty.azC;rw [Ty.ayV]at hl;obtain⟨n0,e0⟩:=bt (g:=g+1) (aJ k Ty.axl);rw [Ty.iT]at e0;obtain⟨n1,e1⟩:=bt (g:=g+1) (aJ k Ty.axm);rw [Ty.iT]at e1;obtain⟨n2,e2⟩:=ah7 (g:=g) (aJ k Ty.axn);rw [Ty.ayU]at e2;refine⟨⟨n0,n1,n2⟩,?_⟩;have hz:vs.drop 7=[]:=List.drop_eq_nil_of_le (by omega);have h0:vs=vs.drop 0:=rfl;rw [h0,aQ 0 1 e0,aQ 1 1 e1,aQ 2 5 e2,hz];simp [Sg.row,Wt.row]
theorem acu{g:Nat}{vs:List V}(h:iX Tryz.prog (g+5) 26 vs):∃l:List Fc,vs=[.sl 12 (l.map Fc.row)]/\l.length<=100000000000000:=by obtain⟨els,h1,h2,h3⟩:=ia h Ty.ag9;obtain⟨l,hl⟩:=eX (R:=Fc.row) (els:=els) (fun row hr=>ah6 (h3 row hr));subst hl;rw [Ty.ayT]at h1;rw [show Tryz.prog.bytesOf 77=88 by kernel_rfl]at h2;exact⟨l,h1,by simp at h2;omega⟩
theorem acv{g:Nat}{vs:List V}(h:iX Tryz.prog (g+4) 27 vs):∃l:List Sg,vs=[.sl 7 (l.map Sg.row)]/\l.length<=100000000000000:=by obtain⟨els,h1,h2,h3⟩:=ia h Ty.ahb;obtain⟨l,hl⟩:=eX (R:=Sg.row) (els:=els) (fun row hr=>ah8 (h3 row hr));subst hl;rw [Ty.ayV]at h1;rw [show Tryz.prog.bytesOf 80=48 by kernel_rfl]at h2;exact⟨l,h1,by simp at h2;omega⟩
theorem acw{g:Nat}{vs:List V}(k:iX Tryz.prog (g+6) 29 vs):∃x:Met,vs=x.row/\x.fs.length<=100000000000000/\x.ss.length<=100000000000000:=by have hl:=dW k Ty.ahc;rw [Ty.ab7]at hl;obtain⟨n0,e0⟩:=bt (g:=g+4) (aJ k Ty.Qe);rw [Ty.iT]at e0;obtain⟨n1,e1⟩:=RJ (g:=g+2) (aJ k Ty.Qf);rw [Ty.Xi]at e1;obtain⟨n2,e2⟩:=bt (g:=g+4) (aJ k Ty.Qg);rw [Ty.iT]at e2;obtain⟨n3,e3⟩:=bt (g:=g+4) (aJ k Ty.Qh);rw [Ty.iT]at e3;obtain⟨n4,e4⟩:=bt (g:=g+4) (aJ k Ty.Qi);rw [Ty.iT]at e4;obtain⟨n5,e5,acy⟩:=acu (g:=g) (aJ k Ty.Qj);rw [Ty.ag8]at e5;obtain⟨n6,e6,acz⟩:=acv (g:=g+1) (aJ k Ty.Qk);rw [Ty.aha]at e6;refine⟨⟨n0,n1,n2,n3,n4,n5,n6⟩,?_,acy,acz⟩;have hz:vs.drop 14=[]:=List.drop_eq_nil_of_le (by omega);have h0:vs=vs.drop 0:=rfl;rw [h0,aQ 0 1 e0,aQ 1 8 e1,aQ 9 1 e2,aQ 10 1 e3,aQ 11 1 e4,aQ 12 1 e5,aQ 13 1 e6,hz];simp [Met.row,cR.row]
theorem ah9{g:Nat}{vs:List V}(k:iX Tryz.prog (g+2) 31 vs):∃x:Wt,vs=x.row:=by have hl:=dW k Ty.ahd;rw [Ty.ab8]at hl;obtain⟨n0,e0⟩:=bt (g:=g) (aJ k Ty.Ql);rw [Ty.iT]at e0;obtain⟨n1,e1⟩:=bt (g:=g) (aJ k Ty.Qm);rw [Ty.iT]at e1;obtain⟨n2,e2⟩:=bt (g:=g) (aJ k Ty.Qn);rw [Ty.iT]at e2;obtain⟨n3,e3⟩:=mq (g:=g) (aJ k Ty.Qo);rw [Ty.Xg]at e3;obtain⟨n4,e4⟩:=mq (g:=g) (aJ k Ty.Qp);rw [Ty.Xg]at e4;refine⟨⟨n0,n1,n2,n3,n4⟩,?_⟩;have hz:vs.drop 5=[]:=List.drop_eq_nil_of_le (by omega);have h0:vs=vs.drop 0:=rfl;rw [h0,aQ 0 1 e0,aQ 1 1 e1,aQ 2 1 e2,aQ 3 1 e3,aQ 4 1 e4,hz];simp [Wt.row]
theorem acA{g:Nat}{vs:List V}(k:iX Tryz.prog (g+2) 164 vs):∃x:eN,vs=x.row:=by have hl:=dW k Ty.ayg;rw [Ty.axu]at hl;obtain⟨n0,e0⟩:=bt (g:=g) (aJ k Ty.avV);rw [Ty.iT]at e0;obtain⟨n1,e1⟩:=bt (g:=g) (aJ k Ty.avW);rw [Ty.iT]at e1;obtain⟨n2,e2⟩:=bt (g:=g) (aJ k Ty.avX);rw [Ty.iT]at e2;refine⟨⟨n0,n1,n2⟩,?_⟩;have hz:vs.drop 3=[]:=List.drop_eq_nil_of_le (by omega);have h0:vs=vs.drop 0:=rfl;rw [h0,aQ 0 1 e0,aQ 1 1 e1,aQ 2 1 e2,hz];simp [eN.row]
theorem XD{g:Nat}{vs:List V}(h:iX Tryz.prog (g+3) 32 vs):∃l:List eN,vs=[.sl 3 (l.map eN.row)]/\l.length<=100000000000000:=by obtain⟨els,h1,h2,h3⟩:=ia h Ty.ahf;obtain⟨l,hl⟩:=eX (R:=eN.row) (els:=els) (fun row hr=>acA (h3 row hr));subst hl;rw [Ty.axu]at h1;rw [show Tryz.prog.bytesOf 164=24 by kernel_rfl]at h2;exact⟨l,h1,by simp at h2;omega⟩
theorem aia{g:Nat}{vs:List V}(k:iX Tryz.prog (g+2) 166 vs):∃x:Kd,vs=x.row:=by have hl:=dW k Ty.ayh;rw [Ty.axv]at hl;obtain⟨n0,e0⟩:=bt (g:=g) (aJ k Ty.avY);rw [Ty.iT]at e0;obtain⟨n1,e1⟩:=bt (g:=g) (aJ k Ty.avZ);rw [Ty.iT]at e1;obtain⟨n2,e2⟩:=bt (g:=g) (aJ k Ty.av0);rw [Ty.iT]at e2;refine⟨⟨n0,n1,n2⟩,?_⟩;have hz:vs.drop 3=[]:=List.drop_eq_nil_of_le (by omega);have h0:vs=vs.drop 0:=rfl;rw [h0,aQ 0 1 e0,aQ 1 1 e1,aQ 2 1 e2,hz];simp [Kd.row]
theorem aib{g:Nat}{vs:List V}(k:iX Tryz.prog (g+2) 153 vs):∃x:Pt,vs=x.row:=by have hl:=dW k Ty.ayf;rw [Ty.axt]at hl;obtain⟨n0,e0⟩:=bt (g:=g) (aJ k Ty.avR);rw [Ty.iT]at e0;obtain⟨n1,e1⟩:=bt (g:=g) (aJ k Ty.avS);rw [Ty.iT]at e1;obtain⟨n2,e2⟩:=bt (g:=g) (aJ k Ty.avT);rw [Ty.iT]at e2;obtain⟨n3,e3⟩:=mq (g:=g) (aJ k Ty.avU);rw [Ty.Xg]at e3;refine⟨⟨n0,n1,n2,n3⟩,?_⟩;have hz:vs.drop 4=[]:=List.drop_eq_nil_of_le (by omega);have h0:vs=vs.drop 0:=rfl;rw [h0,aQ 0 1 e0,aQ 1 1 e1,aQ 2 1 e2,aQ 3 1 e3,hz];simp [Pt.row]
theorem aic{g:Nat}{vs:List V}(k:iX Tryz.prog (g+2) 258 vs):∃x:Od,vs=x.row:=by have hl:=dW k Ty.ayk;rw [Ty.axy]at hl;obtain⟨n0,e0⟩:=bt (g:=g) (aJ k Ty.av7);rw [Ty.iT]at e0;obtain⟨n1,e1⟩:=bt (g:=g) (aJ k Ty.av8);rw [Ty.iT]at e1;refine⟨⟨n0,n1⟩,?_⟩;have hz:vs.drop 2=[]:=List.drop_eq_nil_of_le (by omega);have h0:vs=vs.drop 0:=rfl;rw [h0,aQ 0 1 e0,aQ 1 1 e1,hz];simp [Od.row]
theorem aid{g:Nat}{vs:List V}(k:iX Tryz.prog (g+2) 86 vs):∃x:Wk,vs=x.row:=by have hl:=dW k Ty.azD;rw [Ty.ayW]at hl;obtain⟨n0,e0⟩:=bt (g:=g) (aJ k Ty.axo);rw [Ty.iT]at e0;obtain⟨n1,e1⟩:=bt (g:=g) (aJ k Ty.axp);rw [Ty.iT]at e1;obtain⟨n2,e2⟩:=bt (g:=g) (aJ k Ty.axq);rw [Ty.iT]at e2;obtain⟨n3,e3⟩:=bt (g:=g) (aJ k Ty.axr);rw [Ty.iT]at e3;refine⟨⟨n0,n1,n2,n3⟩,?_⟩;have hz:vs.drop 4=[]:=List.drop_eq_nil_of_le (by omega);have h0:vs=vs.drop 0:=rfl;rw [h0,aQ 0 1 e0,aQ 1 1 e1,aQ 2 1 e2,aQ 3 1 e3,hz];simp [Wk.row]
theorem acB{g:Nat}{vs:List V}(h:iX Tryz.prog (g+3) 33 vs):∃l:List Kd,vs=[.sl 3 (l.map Kd.row)]/\l.length<=100000000000000:=by obtain⟨els,h1,h2,h3⟩:=ia h Ty.ahh;obtain⟨l,hl⟩:=eX (R:=Kd.row) (els:=els) (fun row hr=>aia (h3 row hr));subst hl;rw [Ty.axv]at h1;rw [show Tryz.prog.bytesOf 166=24 by kernel_rfl]at h2;exact⟨l,h1,by simp at h2;omega⟩
theorem acC{g:Nat}{vs:List V}(h:iX Tryz.prog (g+3) 34 vs):∃l:List Pt,vs=[.sl 4 (l.map Pt.row)]/\l.length<=100000000000000:=by obtain⟨els,h1,h2,h3⟩:=ia h Ty.ahj;obtain⟨l,hl⟩:=eX (R:=Pt.row) (els:=els) (fun row hr=>aib (h3 row hr));subst hl;rw [Ty.axt]at h1;rw [show Tryz.prog.bytesOf 153=32 by kernel_rfl]at h2;exact⟨l,h1,by simp at h2;omega⟩
theorem acD{g:Nat}{vs:List V}(h:iX Tryz.prog (g+3) 35 vs):∃l:List Od,vs=[.sl 2 (l.map Od.row)]/\l.length<=100000000000000:=by obtain⟨els,h1,h2,h3⟩:=ia h Ty.ahl;obtain⟨l,hl⟩:=eX (R:=Od.row) (els:=els) (fun row hr=>aic (h3 row hr));subst hl;rw [Ty.axy]at h1;rw [show Tryz.prog.bytesOf 258=16 by kernel_rfl]at h2;exact⟨l,h1,by simp at h2;omega⟩
theorem acE{g:Nat}{vs:List V}(h:iX Tryz.prog (g+3) 38 vs):∃l:List Wk,vs=[.sl 4 (l.map Wk.row)]/\l.length<=100000000000000:=by obtain⟨els,h1,h2,h3⟩:=ia h Ty.aho;obtain⟨l,hl⟩:=eX (R:=Wk.row) (els:=els) (fun row hr=>aid (h3 row hr));subst hl;rw [Ty.ayW]at h1;rw [show Tryz.prog.bytesOf 86=32 by kernel_rfl]at h2;exact⟨l,h1,by simp at h2;omega⟩
theorem acF{g:Nat}{vs:List V}(k:iX Tryz.prog (g+4) 37 vs):∃x:aZ,vs=x.row/\x.kinds.length<=100000000000000/\x.parts.length<=100000000000000/\x.az.length<=100000000000000:=by have hl:=dW k Ty.ahm;rw [Ty.ab9]at hl;obtain⟨n0,e0,RK⟩:=acB (g:=g) (aJ k Ty.Qq);rw [Ty.ahg]at e0;obtain⟨n1,e1,amN⟩:=acC (g:=g) (aJ k Ty.Qr);rw [Ty.ahi]at e1;obtain⟨n2,e2⟩:=bt (g:=g+2) (aJ k Ty.Qs);rw [Ty.iT]at e2;obtain⟨n3,e3,acG⟩:=acD (g:=g) (aJ k Ty.Qt);rw [Ty.ahk]at e3;refine⟨⟨n0,n1,n2,n3⟩,?_,RK,amN,acG⟩;have hz:vs.drop 4=[]:=List.drop_eq_nil_of_le (by omega);have h0:vs=vs.drop 0:=rfl;rw [h0,aQ 0 1 e0,aQ 1 1 e1,aQ 2 1 e2,aQ 3 1 e3,hz];simp [aZ.row]
theorem aie{g:Nat}{vs:List V}(k:iX Tryz.prog (g+2) 168 vs):∃x:Pn,vs=x.row:=by have hl:=dW k Ty.ayi;rw [Ty.axw]at hl;obtain⟨n0,e0⟩:=bt (g:=g) (aJ k Ty.av1);rw [Ty.iT]at e0;obtain⟨n1,e1⟩:=bt (g:=g) (aJ k Ty.av2);rw [Ty.iT]at e1;obtain⟨n2,e2⟩:=bt (g:=g) (aJ k Ty.av3);rw [Ty.iT]at e2;refine⟨⟨n0,n1,n2⟩,?_⟩;have hz:vs.drop 3=[]:=List.drop_eq_nil_of_le (by omega);have h0:vs=vs.drop 0:=rfl;rw [h0,aQ 0 1 e0,aQ 1 1 e1,aQ 2 1 e2,hz];simp [Pn.row]
theorem acH{g:Nat}{vs:List V}(h:iX Tryz.prog (g+3) 39 vs):∃l:List Pn,vs=[.sl 3 (l.map Pn.row)]/\l.length<=100000000000000:=by obtain⟨els,h1,h2,h3⟩:=ia h Ty.ahq;obtain⟨l,hl⟩:=eX (R:=Pn.row) (els:=els) (fun row hr=>aie (h3 row hr));subst hl;rw [Ty.axw]at h1;rw [show Tryz.prog.bytesOf 168=24 by kernel_rfl]at h2;exact⟨l,h1,by simp at h2;omega⟩
theorem aif{g:Nat}{vs:List V}(k:iX Tryz.prog (g+4) 41 vs):∃x:Ro,vs=x.row/\x.bM.length<=100000000000000:=by have hl:=dW k Ty.ahr;rw [Ty.acd]at hl;obtain⟨n0,e0,RK⟩:=acH (g:=g) (aJ k Ty.Qu);rw [Ty.ahp]at e0;obtain⟨n1,e1⟩:=bt (g:=g+2) (aJ k Ty.Qv);rw [Ty.iT]at e1;obtain⟨n2,e2⟩:=bt (g:=g+2) (aJ k Ty.Qw);rw [Ty.iT]at e2;obtain⟨n3,e3⟩:=bt (g:=g+2) (aJ k Ty.Qx);rw [Ty.iT]at e3;obtain⟨n4,e4⟩:=bt (g:=g+2) (aJ k Ty.Qy);rw [Ty.iT]at e4;obtain⟨n5,e5⟩:=bt (g:=g+2) (aJ k Ty.Qz);rw [Ty.iT]at e5;refine⟨⟨n0,n1,n2,n3,n4,n5⟩,?_,RK⟩;have hz:vs.drop 6=[]:=List.drop_eq_nil_of_le (by omega);have h0:vs=vs.drop 0:=rfl;rw [h0,aQ 0 1 e0,aQ 1 1 e1,aQ 2 1 e2,aQ 3 1 e3,aQ 4 1 e4,aQ 5 1 e5,hz];simp [Ro.row,bp]
theorem aih{g:Nat}{vs:List V}(k:iX Tryz.prog (g+2) 200 vs):∃x:Du,vs=x.row:=by have hl:=dW k Ty.ayj;rw [Ty.axx]at hl;obtain⟨n0,e0⟩:=bt (g:=g) (aJ k Ty.av4);rw [Ty.iT]at e0;obtain⟨n1,e1⟩:=bt (g:=g) (aJ k Ty.av5);rw [Ty.iT]at e1;obtain⟨n2,e2⟩:=bt (g:=g) (aJ k Ty.av6);rw [Ty.iT]at e2;refine⟨⟨n0,n1,n2⟩,?_⟩;have hz:vs.drop 3=[]:=List.drop_eq_nil_of_le (by omega);have h0:vs=vs.drop 0:=rfl;rw [h0,aQ 0 1 e0,aQ 1 1 e1,aQ 2 1 e2,hz];simp [Du.row]
theorem acI{g:Nat}{vs:List V}(h:iX Tryz.prog (g+3) 42 vs):∃l:List Du,vs=[.sl 3 (l.map Du.row)]/\l.length<=100000000000000:=by obtain⟨els,h1,h2,h3⟩:=ia h Ty.aht;obtain⟨l,hl⟩:=eX (R:=Du.row) (els:=els) (fun row hr=>aih (h3 row hr));subst hl;rw [Ty.axx]at h1;rw [show Tryz.prog.bytesOf 200=24 by kernel_rfl]at h2;exact⟨l,h1,by simp at h2;omega⟩
theorem RM{g:Nat}{vs:List V}(h:iX Tryz.prog (g+2) 43 vs):∃l:List Int,vs=[.sl 1 (l.map ri)]/\l.length<=100000000000000:=by obtain⟨els,h1,h2,h3⟩:=ia h Ty.ahu;obtain⟨l,hl⟩:=eX (R:=ri) (els:=els) (fun row hr=>bt (h3 row hr));subst hl;rw [Ty.iT]at h1;rw [show Tryz.prog.bytesOf 3=8 by kernel_rfl]at h2;exact⟨l,h1,by simp at h2;omega⟩
theorem aii{g:Nat}{vs:List V}(k:iX Tryz.prog (g+2) 54 vs):∃x:Jb,vs=x.row:=by have hl:=dW k Ty.azy;rw [Ty.ayR]at hl;obtain⟨n0,e0⟩:=bt (g:=g) (aJ k Ty.aw2);rw [Ty.iT]at e0;obtain⟨n1,e1⟩:=bt (g:=g) (aJ k Ty.aw3);rw [Ty.iT]at e1;obtain⟨n2,e2⟩:=bt (g:=g) (aJ k Ty.aw4);rw [Ty.iT]at e2;obtain⟨n3,e3⟩:=bt (g:=g) (aJ k Ty.aw5);rw [Ty.iT]at e3;obtain⟨n4,e4⟩:=mq (g:=g) (aJ k Ty.aw6);rw [Ty.Xg]at e4;refine⟨⟨n0,n1,n2,n3,n4⟩,?_⟩;have hz:vs.drop 5=[]:=List.drop_eq_nil_of_le (by omega);have h0:vs=vs.drop 0:=rfl;rw [h0,aQ 0 1 e0,aQ 1 1 e1,aQ 2 1 e2,aQ 3 1 e3,aQ 4 1 e4,hz];simp [Jb.row]
theorem acJ{g:Nat}{vs:List V}(h:iX Tryz.prog (g+3) 44 vs):∃l:List Jb,vs=[.sl 5 (l.map Jb.row)]/\l.length<=100000000000000:=by obtain⟨els,h1,h2,h3⟩:=ia h Ty.ahw;obtain⟨l,hl⟩:=eX (R:=Jb.row) (els:=els) (fun row hr=>aii (h3 row hr));subst hl;rw [Ty.ayR]at h1;rw [show Tryz.prog.bytesOf 54=40 by kernel_rfl]at h2;exact⟨l,h1,by simp at h2;omega⟩
theorem aij{g:Nat}{vs:List V}(k:iX Tryz.prog (g+2) 56 vs):∃x:Sr,vs=x.row:=by have hl:=dW k Ty.azz;rw [Ty.ayS]at hl;obtain⟨n0,e0⟩:=bt (g:=g) (aJ k Ty.aw7);rw [Ty.iT]at e0;obtain⟨n1,e1⟩:=bt (g:=g) (aJ k Ty.aw8);rw [Ty.iT]at e1;obtain⟨n2,e2⟩:=bt (g:=g) (aJ k Ty.aw9);rw [Ty.iT]at e2;obtain⟨n3,e3⟩:=bt (g:=g) (aJ k Ty.axa);rw [Ty.iT]at e3;refine⟨⟨n0,n1,n2,n3⟩,?_⟩;have hz:vs.drop 4=[]:=List.drop_eq_nil_of_le (by omega);have h0:vs=vs.drop 0:=rfl;rw [h0,aQ 0 1 e0,aQ 1 1 e1,aQ 2 1 e2,aQ 3 1 e3,hz];simp [Sr.row]
theorem acK{g:Nat}{vs:List V}(h:iX Tryz.prog (g+3) 47 vs):∃l:List Sr,vs=[.sl 4 (l.map Sr.row)]/\l.length<=100000000000000:=by obtain⟨els,h1,h2,h3⟩:=ia h Ty.ahy;obtain⟨l,hl⟩:=eX (R:=Sr.row) (els:=els) (fun row hr=>aij (h3 row hr));subst hl;rw [Ty.ayS]at h1;rw [show Tryz.prog.bytesOf 56=32 by kernel_rfl]at h2;exact⟨l,h1,by simp at h2;omega⟩
theorem aik{g:Nat}{vs:List V}(k:iX Tryz.prog (g+7) 46 vs):∃x:Fl,vs=x.row/\x.met.fs.length<=100000000000000/\x.met.ss.length<=100000000000000/\x.Ah.length<=100000000000000/\x.eH.kinds.length<=100000000000000/\x.eH.parts.length<=100000000000000/\x.eH.az.length<=100000000000000/\x.ko.length<=100000000000000/\x.gv.bM.length<=100000000000000/\x.wF.length<=100000000000000/\x.dU.length<=100000000000000/\x.lz.length<=100000000000000/\x.jobs.length<=100000000000000:=by have hl:=dW k Ty.acf;rw [Ty.ahx]at hl;obtain⟨n0,e0,RK,amO⟩:=acw (g:=g) (aJ k Ty.QB);rw [Ty.ab7]at e0;obtain⟨n1,e1⟩:=ah9 (g:=g+4) (aJ k Ty.QC);rw [Ty.ab8]at e1;obtain⟨n2,e2,amP⟩:=XD (g:=g+3) (aJ k Ty.QD);rw [Ty.ahe]at e2;obtain⟨n3,e3,acG,amQ,amR⟩:=acF (g:=g+2) (aJ k Ty.QE);rw [Ty.ab9]at e3;obtain⟨n4,e4,amS⟩:=acE (g:=g+3) (aJ k Ty.QF);rw [Ty.ahn]at e4;obtain⟨n5,e5,acy⟩:=aif (g:=g+2) (aJ k Ty.QG);rw [Ty.acd]at e5;obtain⟨n6,e6,acz⟩:=acI (g:=g+3) (aJ k Ty.QH);rw [Ty.ahs]at e6;obtain⟨n7,e7,amT⟩:=RM (g:=g+4) (aJ k Ty.QI);rw [Ty.ace]at e7;obtain⟨n8,e8,amU⟩:=RM (g:=g+4) (aJ k Ty.QJ);rw [Ty.ace]at e8;obtain⟨n9,e9⟩:=bt (g:=g+5) (aJ k Ty.QK);rw [Ty.iT]at e9;obtain⟨n10,e10⟩:=bt (g:=g+5) (aJ k Ty.JO);rw [Ty.iT]at e10;obtain⟨n11,e11⟩:=bt (g:=g+5) (aJ k Ty.JP);rw [Ty.iT]at e11;obtain⟨n12,e12⟩:=bt (g:=g+5) (aJ k Ty.JQ);rw [Ty.iT]at e12;obtain⟨n13,e13,ail⟩:=acJ (g:=g+3) (aJ k Ty.JR);rw [Ty.ahv]at e13;refine⟨⟨n0,n1,n2,n3,n4,n5,n6,n7,n8,n9,n10,n11,n12,n13⟩,?_,RK,amO,amP,acG,amQ,amR,amS,acy,acz,amT,amU,ail⟩;have hz:vs.drop 39=[]:=List.drop_eq_nil_of_le (by omega);have h0:vs=vs.drop 0:=rfl;rw [h0,aQ 0 14 e0,aQ 14 5 e1,aQ 19 1 e2,aQ 20 4 e3,aQ 24 1 e4,aQ 25 6 e5,aQ 31 1 e6,aQ 32 1 e7,aQ 33 1 e8,aQ 34 1 e9,aQ 35 1 e10,aQ 36 1 e11,aQ 37 1 e12,aQ 38 1 e13,hz];simp [Fl.row]
theorem yH{g:Nat}{x:V}(h:og Tryz.prog (g+7) 46 x):∃f:Fl,x=.agg f.row/\KD f:=by obtain⟨vs,e,k⟩:=M6 h Ty.acf;obtain⟨f,e1,b0,b1,b2,b3,b4,b5,b6,b7,b8,b9,b10,b11⟩:=aik k;exact⟨f,by rw [e,e1],⟨⟨b0,b1⟩,b2,⟨by simp only;omega,by simp only;omega,by simp only;omega,by simp only;omega⟩,⟨b7,b8⟩,b9,b10,b11⟩⟩
theorem CQ{g:Nat}{x:V}(h:og Tryz.prog (g+3) 47 x):∃l:List Sr,x=.sl 4 (l.map Sr.row)/\l.length<=100000000000000:=by obtain⟨l,h1,h2⟩:=acK (Bn h (show cB Tryz.prog 47=false by kernel_rfl));exact⟨l,by simpa using h1,h2⟩
abbrev aim:List (String × DataW Unit):=[("swashplate/parts.store",.agg [.lit (.int .i64 (-1)),.lit (.int .i64 (-1))]),("swashplate/parts.scrap",.agg [.lit (.int .i64 (-2)),.lit (.int .i64 (-2))])]
theorem yG{W:World}(h:laidMetH Tryz.prog aim W):GOK W (fun _=>False):=by
 rw [MakeChecks.laidMetH_plain _ _ _ (by kernel_rfl)]at h;obtain⟨ps,⟨g,t,cs,fuel,p,q,hg,ht,hv,hd,⟨g',t',cs',fuel',p',q',hg',ht',fJ,hd',_⟩,_⟩,_⟩:=h;obtain rfl:=Option.some.inj ((show Tryz.prog.globalNamed "swashplate/parts.store" = some 0 by kernel_rfl).symm.trans hg);obtain rfl:=Option.some.inj ((show Tryz.prog.globalNamed "swashplate/parts.scrap" = some 1 by kernel_rfl).symm.trans hg');obtain rfl:=Option.some.inj ((show(Tryz.prog.globals[0]?).map (·.type)=some 154 by kernel_rfl).symm.trans ht);obtain rfl:=Option.some.inj ((show(Tryz.prog.globals[1]?).map (·.type)=some 154 by kernel_rfl).symm.trans ht');have h1:=Bo hg hv (by kernel_rfl) (show Tryz.prog.underlying 3=some (.int .i64) by kernel_rfl) Ty.iT hd;have h0:=Bo hg' fJ (by kernel_rfl) (show Tryz.prog.underlying 3=some (.int .i64) by kernel_rfl) Ty.iT hd';intro k v hk;have hk':(if k=0 then some (V.ip 2 [[.int .i64 (-1),.int .i64 (-1)]] 0 0)else if k=1 then some (.ip 2 [[.int .i64 (-2),.int .i64 (-2)]] 0 0)else none)=some v:=hk;split at hk'
 ·rename_i e;subst e;cases hk';exact h1
 ·split at hk'
  ·rename_i e;subst e;cases hk';exact h0
  ·cases hk'
theorem aBe{g:Nat}{x:V}(h:og Tryz.prog (g+4) 77 x):∃f:Fc,x=.agg f.row:=by obtain⟨vs,e,k⟩:=M6 h Ty.azA;obtain⟨f,e1⟩:=ah6 k;exact⟨f,by rw [e,e1]⟩
theorem aBx{g:Nat}{x:V}(h:og Tryz.prog (g+2) 86 x):∃f:Wk,x=.agg f.row:=by obtain⟨vs,e,k⟩:=M6 h Ty.azD;obtain⟨f,e1⟩:=aid k;exact⟨f,by rw [e,e1]⟩
end Go.Sx
end
end
