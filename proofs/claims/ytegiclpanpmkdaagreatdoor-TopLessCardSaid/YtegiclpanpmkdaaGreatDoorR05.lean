/- Regions whose order is left open: where the operations commute or an edge orders them, the text's order stands for all. No conditions. -/
import Derived.Test.YtegiclpanpmkdaaGreatDoorR04
set_option linter.all false
set_option maxRecDepth 100000
set_option maxHeartbeats 8000000
noncomputable section
namespace Go.Sx
open Go.RowKit
variable [aO]
def oZ(E:Env)(o:Oper):Nat:=
 match o.op with
 | .move _|.assign _|.pick .. | .build .. | .nilCheck _|.binOp .. | .unOp .. | .convert .. | .makeFunc .. | .fieldAddr .. | .field .. | .index .. | .extract ..=>0
 | .load .. | .indexAddr ..=>1
 | .slice ..=>if E.own.contains (o.dst.getD 0)then 2 else 1
 | .buildSlice ..=>if E.own.contains (o.dst.getD 0)then 2 else 0
 | .call c=>match c.callee with
  | .builtin .len=>0
  | .builtin .max=>0
  | .builtin .min=>0
  | .value (.func f)=>match E.fn f with|some (.pure _)=>if (OV E.cfz (o.dst.getD 0)).isEmpty then 1 else 2|_=>2
  | _=>2
 | _=>2
def looks(ops:List Oper)(o:Oper):List Nat:=
 (o.op.operands.toList.filterMap fun|.tmp t=>some t|_=>none)++
 (match o.guard with
  | some (g,_)=>((ops[g]?).bind (·.dst)).toList
  | none=>[])
def Ho(ops:List Oper)(x y:Oper):Bool:=
 (match x.dst with
  | some d=>!(looks ops y).contains d && y.dst != some d
  | none=>true) &&
 (match y.dst with
  | some d=>!(looks ops x).contains d
  | none=>true)
def aa1(a b:Nat):Bool:=a == 0 || b == 0 || (a == 1 && b == 1)
def Hq(E:Env)(fr:List Nat)(i:Nat)(o:Oper):Nat:=if fr.contains i && !fr.contains (i+1000)then 0 else oZ E o
def iF(o:Oper):Bool:=match o.op with
 | .alloc _|.box .. | .store .. | .makeSlice .. | .buildSlice ..=>true
 | .call c=>match c.callee with
  | .builtin .append=>true
  | _=>false
 | _=>false
def JK:Op->Bool
 | .alloc _|.box .. | .makeSlice ..=>true
 | _=>false
def En(fr:List Nat)(i:Nat)(o:Oper):Bool:=JK o.op || fr.contains (i+3000)
def Cy(fr:List Nat)(i:Nat)(x:Oper)(j:Nat)(y:Oper):Bool:=match x.dst,y.dst with|some a,some b=>En fr i x && En fr j y && a != b|_,_=>false
omit [aO]in
theorem jS{fr:List Nat}{i j:Nat}{x y:Oper}(h:Cy fr i x j y=true):∃a b,En fr i x=true/\En fr j y=true/\x.dst=some a/\y.dst=some b/\a≠b:=by
 unfold Cy at h;split at h
 ·rename_i a b h3 h4;simp only [Bool.and_eq_true,bne_iff_ne,ne_eq]at h;exact⟨a,b,h.1.1,h.1.2,h3,h4,h.2⟩
 ·cases h
def me(ops:List Oper)(y:Oper):Bool:=kq y && ops.any fun q=>kq q && q.dst == y.dst
def A4(E:Env)(ops:List Oper)(fr:List Nat)(i:Nat)(x:Oper)(j:Nat)(y:Oper):Bool:=Ho ops x y && (aa1 (Hq E fr i x) (Hq E fr j y) || Cy fr i x j y || (fr.contains (i+1000) && iF y) || (fr.contains (j+1000) && iF x) || (fr.contains (i+2000) && me ops y) || (fr.contains (j+2000) && me ops x))
def PZ(y:Oper)(i:Nat):Bool:=y.after.any fun e=>Region.binds .any e && e.on == i
def xe(ops:List Oper)(i j:Nat):Bool:=match ops[j]? with|some y=>PZ y i|none=>false
def Cz(E:Env)(ops:List Oper)(fr:List Nat)(i j:Nat):Bool:=match ops[i]?,ops[j]? with|some x,some y=>A4 E ops fr i x j y|_,_=>true
def o5(ops:List Oper)(j:Nat):List Nat:=match ops[j]? with|some y=>(y.after.toList.filter fun e=>Region.binds .any e).map (·.on)|none=>[]
def anc(ops:List Oper):Nat->List Nat->List Nat
 | 0,l=>l
 | f+1,l=>l++anc ops f (l.flatMap (o5 ops)).eraseDups
def CA(ops:List Oper)(i j:Nat):Bool:=(anc ops 6 (o5 ops j)).contains i
omit [aO]in
theorem yo{ops:List Oper}{C:Nat->Prop}(hC:∀a,C a->∀d∈o5 ops a,C d):∀(f:Nat) (l:List Nat),(∀a∈l,C a)->∀a∈anc ops f l,C a
 | 0,l,h,a,ha=>h a ha
 | f+1,l,h,a,ha=>by
  simp only [anc,List.mem_append]at ha;rcases ha with ha|ha
  ·exact h a ha
  ·refine yo hC f _ (fun b hb=>?_) a ha;obtain⟨c,hc,hd⟩:=List.mem_flatMap.1 (List.mem_eraseDups.1 hb);exact hC c (h c hc) b hd
def A5(E:Env)(ops:List Oper)(fr:List Nat):List (Nat × Nat):=
 (List.range ops.length).flatMap fun j=>(List.range j).filterMap fun i=>if xe ops i j || xe ops j i || (Cz E ops fr i j && Cz E ops fr j i) || CA ops i j || CA ops j i then none else some (i,j)
def okT(E:Env)(ops:List Oper)(fr:List Nat)(N:List (Nat × Nat))(τ:List Nat):Bool:=
 decide (τ.Pairwise fun a b=>τ.idxOf a<τ.idxOf b) && (τ.all fun i=>decide (i<ops.length)) && ((List.range ops.length).all fun i=>τ.contains i) &&
 (List.range ops.length).all fun j=>(match ops[j]? with|some y=>y.after.all fun e=>!Region.binds .any e || (decide (e.on<ops.length) && decide (τ.idxOf e.on<τ.idxOf j))|none=>true) &&
  (List.range ops.length).all fun i=>!decide (τ.idxOf i<τ.idxOf j) || xe ops i j || Cz E ops fr i j || N.contains (i,j) || N.contains (j,i) || CA ops i j
def rU:List (Nat × Nat)->List (List Nat)->Bool
 | [],cs=>!cs.isEmpty
 | (i,j)::N,cs=>rU N (cs.filter fun τ=>decide (τ.idxOf i<τ.idxOf j)) && rU N (cs.filter fun τ=>decide (τ.idxOf j<τ.idxOf i))
def okM(E:Env)(ops:List Oper)(fr:List Nat)(cs:List (List Nat)):Bool:=
 E.P.follows .mixedOrders && (cs.all fun τ=>decide (τ.length<=ops.length) && okT E ops fr (A5 E ops fr) τ) && rU (A5 E ops fr) cs
omit [aO]in
theorem JL{ρ ρ':Operand->V}{l:List Operand}(h:∀x∈l,ρ x=ρ' x):l.map ρ=l.map ρ':=List.map_congr_left h
omit [aO]in
theorem A6{ρ ρ':Operand->V}{l:List (Nat × Operand)}(h:∀x∈l.map (·.2),ρ x=ρ' x):(l.map fun p=>(p.1,ρ p.2))=(l.map fun p=>(p.1,ρ' p.2)):=
 List.map_congr_left fun p hp=>by rw [h p.2 (List.mem_map.2 ⟨p,hp,rfl⟩)]
omit [aO]in
theorem rW{ρ ρ':Operand->V}{x:Option Operand}(h:∀y∈x.toList,ρ y=ρ' y):uK ρ x=uK ρ' x:=by
 cases x with
 | none=>rfl
 | some y=>simp only [uK];rw [h y (by simp)]
omit [aO]in
theorem MI(E:Env)(d:Nat)(op:Op){ρ ρ':Operand->V}(h:Hp)(hx:∀x∈op.operands.toList,ρ x=ρ' x):sem E d op ρ h=sem E d op ρ' h:=by
 cases op
 case call c=>
  simp only [Op.operands,Call.operands]at hx;have ha:c.args.toList.map ρ=c.args.toList.map ρ':=JL fun x hm=>hx x (by simp;right;simpa using hm);cases hc:c.callee with
  | value f=>
   have hf:ρ f=ρ' f:=hx f (by simp [hc]);simp only [sem,hc,ha,hf]
  | invoke r m=>simp only [sem,hc]
  | builtin b=>
   cases b<;>simp only [sem,hc,ha]
   case len=>
    cases hl:c.args.toList with
    | nil=>rfl
    | cons a r=>cases r with
     | nil=>rw [hl]at ha;simp only [List.map_cons,List.map_nil,List.cons.injEq]at ha;cases c.argTypes.toList with
      | nil=>rfl
      | cons t r=>cases r with
       | nil=>simp only [ha.1]
       | cons _ _=>rfl
     | cons _ _=>rfl
   case cap=>
    cases hl:c.args.toList with
    | nil=>rfl
    | cons a r=>cases r with
     | nil=>rw [hl]at ha;simp only [List.map_cons,List.map_nil,List.cons.injEq]at ha;cases c.argTypes.toList with
      | nil=>rfl
      | cons t r=>cases r with
       | nil=>simp only [ha.1]
       | cons _ _=>rfl
     | cons _ _=>rfl
   case clear=>
    cases hl:c.args.toList with
    | nil=>rfl
    | cons a r=>cases r with
     | nil=>rw [hl]at ha;simp only [List.map_cons,List.map_nil,List.cons.injEq]at ha;cases c.argTypes.toList with
      | nil=>rfl
      | cons t r=>cases r with
       | nil=>simp only [ha.1]
       | cons _ _=>rfl
     | cons _ _=>rfl
   case copy=>
    cases hl:c.args.toList with
    | nil=>rfl
    | cons a r=>cases r with
     | nil=>rfl
     | cons b r=>cases r with
      | nil=>
       rw [hl]at ha;simp only [List.map_cons,List.map_nil,List.cons.injEq]at ha;cases c.argTypes.toList with
       | nil=>rfl
       | cons t r=>cases r with
        | nil=>rfl
        | cons t2 r=>cases r with
         | nil=>simp only [ha.1,ha.2.1]
         | cons _ _=>rfl
      | cons _ _=>rfl
   case append=>
    cases hl:c.args.toList with
    | nil=>rfl
    | cons a r=>cases r with
     | nil=>rfl
     | cons b r=>cases r with
      | nil=>
       rw [hl]at ha;simp only [List.map_cons,List.map_nil,List.cons.injEq]at ha;cases c.argTypes.toList with
       | nil=>rfl
       | cons t r=>cases r with
        | nil=>rfl
        | cons t2 r=>cases r with
         | nil=>simp only [ha.1,ha.2.1]
         | cons _ _=>rfl
      | cons _ _=>rfl
 case build T parts=>
  simp only [sem];rw [A6 (ρ:=ρ) (ρ':=ρ') fun x hm=>hx x (by simpa [Op.operands]using hm)]
 case buildSlice T n parts=>
  simp only [sem];rw [A6 (ρ:=ρ) (ρ':=ρ') fun x hm=>hx x (by simpa [Op.operands]using hm)]
 case makeFunc f first caps=>
  cases f<;>simp only [sem];rw [JL (ρ:=ρ) (ρ':=ρ') fun x hm=>hx x (by simp [Op.operands];right;simpa using hm)]
 case slice T x lo hi mx=>
  simp only [sem]
  rw [hx x (by simp [Op.operands]),rW (ρ:=ρ) (ρ':=ρ') (x:=lo) (fun y hy=>hx y (by simp [Op.operands];right;left;simpa using hy)),
   rW (ρ:=ρ) (ρ':=ρ') (x:=hi) (fun y hy=>hx y (by simp [Op.operands];right;right;left;simpa using hy)),
   rW (ρ:=ρ) (ρ':=ρ') (x:=mx) (fun y hy=>hx y (by simp [Op.operands];right;right;right;simpa using hy))]
 all_goals first
  | rfl
  | (simp only [Op.operands, List.mem_cons, List.not_mem_nil, or_false, forall_eq_or_imp, forall_eq] at hx
     simp only [sem];first|(rw [hx];done)|(simp only [hx];done)|rw [hx.1,hx.2]|rw [hx.1,hx.2.1,hx.2.2])
omit [aO]in
theorem ag5(E:Env)(o:Oper)(ρ:Operand->V)(hρ:∀f,ρ (.func f)=.fn f [])(h:Hp)(hc:oZ E o<=1):(sem E (o.dst.getD 0) o.op ρ h).h=h:=by
 obtain⟨dst,op,ty,pos,aft,gd⟩:=o;cases op<;>simp only [oZ]at hc<;>(try omega)
 case buildSlice T n parts=>
  split at hc
  ·omega
  ·rename_i ho;simp only [sem];have ho':E.own.contains (dst.getD 0)=false:=(by simpa using ho);rw [ho'];by_cases he:E.own.contains (dst.getD 0+500000)=true
   ·rw [if_pos he];exact uL _ _ _ _ _
   rw [if_neg he];unfold dK;split<;>rfl
 case call c=>
  simp only [sem];cases mK:c.callee with
  | value f=>
   rw [mK]at hc;cases f with
   | func f=>
    simp only at hc;simp only [hρ,q9,vM];split at hc
    ·rename_i S hS;split at hc
     ·rename_i he;have:OV E.cfz (dst.getD 0)=[]:=(by simpa using he);simp only [hS,o6,this,yp]
     ·omega
    ·omega
   | _=>simp at hc
  | invoke r m=>rfl
  | builtin b=>
   rw [mK]at hc;cases b<;>simp only at hc ⊢<;>(try omega)
   case len=>split<;>(try rfl);unfold sLen;split<;>rfl
   case max=>unfold uM;split<;>rfl
   case min=>unfold uM;split<;>rfl
 all_goals simp only [sem]
 case makeFunc f first caps=>cases f<;>simp only<;>(try rfl);split<;>rfl
 case pick=>unfold A7;split<;>rfl
 case build=>unfold ny;split<;>rfl
 case nilCheck=>unfold Co;split<;>rfl
 case unOp=>unfold sUn;split<;>rfl
 case convert=>unfold yq;split<;>rfl
 case fieldAddr=>unfold fk;split<;>rfl
 case field=>unfold nr;split<;>rfl
 case index=>unfold nu;split<;>rfl
 case extract=>unfold mN;split<;>rfl
 case load=>unfold l9;split<;>(try rfl);split<;>rfl
 case slice=>
  split at hc
  ·omega
  ·rename_i ho;rw [if_neg ho]
 case indexAddr=>unfold ef;split<;>(try rfl);split<;>(try rfl)<;>split<;>rfl
omit [aO]in
theorem aa2(E:Env)(o:Oper)(ρ:Operand->V)(h h':Hp)(hc:oZ E o=0):sem E (o.dst.getD 0) o.op ρ h'={sem E (o.dst.getD 0) o.op ρ h with h:=h'}:=by
 obtain⟨dst,op,ty,pos,aft,gd⟩:=o;cases op<;>simp only [oZ]at hc<;>(try omega)
 case slice=>split at hc<;>omega
 case buildSlice T n parts=>
  split at hc
  ·omega
  ·rename_i ho;simp only [sem];have ho':E.own.contains (dst.getD 0)=false:=(by simpa using ho);rw [ho'];by_cases he:E.own.contains (dst.getD 0+500000)=true
   ·rw [if_pos he,if_pos he];exact CB _ _ _ _ _ _
   rw [if_neg he,if_neg he];unfold dK;split<;>rfl
 case call c=>
  simp only [sem];cases mK:c.callee with
  | value f=>
   rw [mK]at hc;cases f with
   | func f=>simp only at hc;split at hc<;>(try split at hc)<;>omega
   | _=>simp at hc
  | invoke r m=>rfl
  | builtin b=>
   rw [mK]at hc;cases b<;>simp only at hc ⊢<;>(try omega)
   case len=>split<;>(try rfl);unfold sLen;split<;>rfl
   case max=>unfold uM;split<;>rfl
   case min=>unfold uM;split<;>rfl
 all_goals simp only [sem]
 case makeFunc f first caps=>cases f<;>simp only<;>(try rfl);split<;>rfl
 case pick=>unfold A7;split<;>rfl
 case build=>unfold ny;split<;>rfl
 case nilCheck=>unfold Co;split<;>rfl
 case unOp=>unfold sUn;split<;>rfl
 case convert=>unfold yq;split<;>rfl
 case fieldAddr=>unfold fk;split<;>rfl
 case field=>unfold nr;split<;>rfl
 case index=>unfold nu;split<;>rfl
 case extract=>unfold mN;split<;>rfl
theorem P0(st:St)(f:Nat):di st (.func f)=.fn f []:=rfl
theorem gG{ops:List Oper}{o:Oper}{st st':St}(h:∀k∈looks ops o,st.t k=st'.t k)(x:Operand)(hx:x∈o.op.operands.toList):ev st x=ev st' x:=by
 cases x with
 | tmp t=>exact h t (List.mem_append_left _ (List.mem_filterMap.2 ⟨.tmp t,hx,rfl⟩))
 | _=>rfl
theorem rX{st st':St}:∀{l:List Operand},(∀x∈l,ev st x=ev st' x)->CC st l=CC st' l
 | [],_=>rfl
 | x::l,h=>by simp only [CC];rw [h x (by simp),rX fun y hy=>h y (by simp [hy])]
theorem jT{st st':St}(op:Op)(h:∀x∈op.operands.toList,ev st x=ev st' x):valid st op=valid st' op:=by
 cases op
 case pick c a b=>
  simp only [Op.operands,List.mem_cons,List.not_mem_nil,or_false,forall_eq_or_imp,forall_eq]at h;simp only [valid,di];rw [h.1,h.2.1,h.2.2]
 case call c=>
  simp only [Op.operands,Call.operands]at h;simp only [valid];refine rX fun x hx=>h x ?_;cases hc:c.callee<;>simp only [hc]at hx ⊢<;>(first|(simpa using hx)|(simp;right;simpa using hx))
 all_goals exact rX h
omit [aO]in
theorem eD{ops:List Oper}{o:Oper}{st st':St}(h:∀k∈looks ops o,st.t k=st'.t k):fI ops st o.guard=fI ops st' o.guard:=by
 cases hg:o.guard with
 | none=>rfl
 | some p=>
  obtain⟨j,want⟩:=p;simp only [fI];cases hd:(ops[j]?).bind (·.dst)with
  | none=>rfl
  | some d=>simp only [show st.t d=st'.t d from h d (List.mem_append_right _ (by simp [hg,hd]))]
def eR(E:Env)(ops:List Oper)(o:Oper)(st:St):Prop × Bool × V:=
 let s:=sem E (o.dst.getD 0) o.op (di st) st.h
 ((fI ops st o.guard).1/\A8 E.nt o.dst/\((fI ops st o.guard).2=true->valid st o.op/\s.c),(fI ops st o.guard).2,s.v)
theorem step_eq(E:Env)(ops:List Oper)(o:Oper)(st:St):step E ops o st=((eR E ops o st).1,{t:=o7 st.t o.dst (eR E ops o st).2,h:=nD (fI ops st o.guard).2 (sem E (o.dst.getD 0) o.op (di st) st.h).h st.h}):=rfl
theorem fG{E:Env}{ops:List Oper}{o:Oper}{st st':St}(h:∀k∈looks ops o,st.t k=st'.t k)(hp:Hp):sem E (o.dst.getD 0) o.op (di st) hp=sem E (o.dst.getD 0) o.op (di st') hp:=
 MI E _ _ hp fun x hx=>by simp only [di];rw [gG h x hx]
theorem fh{E:Env}{ops:List Oper}{o:Oper}{st st':St}(h:∀k∈looks ops o,st.t k=st'.t k)(hh:st.h=st'.h\/oZ E o=0):eR E ops o st=eR E ops o st':=by
 unfold eR;simp only;rw [eD h,jT o.op (fun x hx=>gG h x hx),fG h];rcases hh with hh|hh
 ·rw [hh]
 ·rw [aa2 E o (di st') st'.h st.h hh]
omit [aO]in
theorem P3(t:Nat->Bool × V){x y:Option Nat}(u v:Bool × V)(h:∀d,x=some d->y≠some d):o7 (o7 t x u) y v=o7 (o7 t y v) x u:=by
 funext k;cases x with
 | none=>rfl
 | some d=>
  cases y with
  | none=>rfl
  | some e=>
   have va:d≠e:=fun he=>h d rfl (he ▸ rfl);simp only [o7];by_cases h1:k=e
   ·subst h1;simp [Ne.symm va]
   ·simp [h1]
omit [aO]in
theorem Ba{t:Nat->Bool × V}{d:Option Nat}{x:Bool × V}{l:List Nat}(h:∀e,d=some e->e ∉ l):∀k∈l,o7 t d x k=t k:=by
 intro k hk;cases d with
 | none=>rfl
 | some e=>
  simp only [o7];rw [if_neg];rintro rfl;exact h k rfl hk
omit [aO]in
theorem Eo{ops:List Oper}{x y:Oper}(h:Ho ops x y=true) :
  (∀d,x.dst=some d->d ∉ looks ops y)/\(∀d,x.dst=some d->y.dst≠some d)/\(∀d,y.dst=some d->d ∉ looks ops x):=by
 refine⟨fun d hd=>?_,fun d hd=>?_,fun d hd=>?_⟩<;>simp [Ho,hd]at h
 ·exact h.1.1
 ·exact h.1.2
 ·exact h.2
theorem hstep{E:Env}{ops:List Oper}{o:Oper}{st:St}(hc:oZ E o<=1):(step E ops o st).2.h=st.h:=by rw [step_eq];simp only;rw [ag5 E o _ (P0 st) _ hc];cases (fI ops st o.guard).2<;>rfl
def kD(E:Env)(ops:List Oper)(o:Oper)(st:St):Hp:=nD (fI ops st o.guard).2 (sem E (o.dst.getD 0) o.op (di st) st.h).h st.h
theorem iM{E:Env}{ops:List Oper}{o:Oper}{st st':St}(h:∀k∈looks ops o,st.t k=st'.t k)(hh:st.h=st'.h):kD E ops o st=kD E ops o st':=by unfold kD;rw [eD h,fG h,hh]
theorem dL{E:Env}{ops:List Oper}{o:Oper}{st:St}(hc:oZ E o<=1):kD E ops o st=st.h:=hstep hc
def Fre(E:Env)(fr:List Nat)(i:Nat)(o:Oper)(st:St):Prop:=fr.contains i=true->aS E o st
theorem aS.agree{E:Env}{ops:List Oper}{o:Oper}{st st':St}(h:∀k∈looks ops o,st.t k=st'.t k)(hf:aS E o st):aS E o st':=by intro h1 h2;rw [<-fG h h2,<-fG h h1];exact hf h1 h2
theorem Fre.zero{E:Env}{fr:List Nat}{i:Nat}{o:Oper}{st:St}(hf:Fre E fr i o st)(h0:Hq E fr i o=0):aS E o st:=by
 unfold Hq at h0;split at h0
 ·rename_i h;exact hf (by simp only [Bool.and_eq_true]at h;exact h.1)
 ·exact fun h h'=>aa2 E o _ h h' h0
theorem aS.kD{E:Env}{ops:List Oper}{o:Oper}{st:St}(hf:aS E o st):kD E ops o st=st.h:=by unfold Sx.kD;have:=hf st.h st.h;rw [this];cases (fI ops st o.guard).2<;>rfl
theorem gw{E:Env}{fr:List Nat}{i:Nat}{o:Oper}{st:St}{ops:List Oper}(hf:Fre E fr i o st)(h1:Hq E fr i o<=1):kD E ops o st=st.h:=by
 by_cases h0:Hq E fr i o=0
 ·exact(hf.zero h0).kD
 ·unfold Hq at h1 h0;split at h0
  ·exact absurd rfl h0
  ·rename_i h;rw [if_neg h]at h1;exact dL h1
theorem yt{E:Env}{ops:List Oper}{o:Oper}{st st':St}(h:∀k∈looks ops o,st.t k=st'.t k)(hf:aS E o st'):eR E ops o st=eR E ops o st':=by unfold eR;simp only;rw [eD h,jT o.op (fun x hx=>gG h x hx),fG h];rw [hf st'.h st.h]
omit [aO]in
theorem Hr(h:Hp){a b:Nat}(v0:a≠b)(A B:dZ):bD (bD h a A) b B=bD (bD h b B) a A:=by
 funext k;by_cases h1:k=a
 ·subst h1;simp [bD,v0]
 ·by_cases h2:k=b
  ·subst h2;simp [bD,Ne.symm v0]
  ·simp [bD,h1,h2]
omit [aO]in
theorem Ep(h:Hp){a b:Nat}(v0:a≠b)(A:dZ):hnext (bD h a A) b=hnext h b:=by simp [hnext,bD,Ne.symm v0]
def mO(h:Hp)(s:Nat):Option dZ->Hp
 | some B=>bD h s B
 | none=>h
omit [aO]in
theorem awn{E:Env}{d:Nat}{op:Op}(h:JK op=true)(ρ:Operand->V):∃(c:Prop) (v:Nat->V) (B:Option dZ),∀h,sem E d op ρ h=⟨c,v (hnext h (E.key+d)),mO h (E.key+d) B⟩:=by
 cases op<;>simp only [JK,Bool.false_eq_true]at h
 case alloc T=>exact⟨_,fun n=>.bG (E.key+d) n 1 0 0,some _,fun h=>rfl⟩
 case box T x=>exact⟨_,fun n=>.bG (E.key+d) n 1 0 0,some _,fun h=>rfl⟩
 case makeSlice T l c=>
  simp only [sem];unfold eG;split
  ·split
   ·exact⟨_,fun n=>.gY (E.key+d) n _ 0 _ _,some _,fun h=>rfl⟩
   ·exact⟨_,fun n=>.bw (E.key+d) n _,some _,fun h=>rfl⟩
  ·exact⟨False,fun _=>.top,none,fun h=>rfl⟩
omit [aO]in
theorem Hs(h:Hp){a b:Nat}(v0:a≠b)(A B:Option dZ):mO (mO h a A) b B=mO (mO h b B) a A:=by cases A<;>cases B<;>simp only [mO];exact Hr h v0 _ _
omit [aO]in
theorem Es(h:Hp){a b:Nat}(v0:a≠b)(A:Option dZ):hnext (mO h a A) b=hnext h b:=by cases A<;>simp only [mO];exact Ep h v0 _
def Xe(E:Env)(o:Oper)(st:St):Prop:=∃(c:Prop) (v:Nat->V) (B:Option dZ),∀h,sem E (o.dst.getD 0) o.op (di st) h=⟨c,v (hnext h (E.key+o.dst.getD 0)),mO h (E.key+o.dst.getD 0) B⟩
theorem lB.call{o:Oper}{st:St}(hf:lB o st):∃c x T,o.op=.call c/\c.callee=.builtin .append/\c.args.toList=[.const (.slice none 0 0),x]/\c.argTypes.toList=[T,T]/\((∃z els,di st x=.sl z els)\/di st x=.nil):=by
 unfold lB at hf;split at hf
 ·rename_i c ho;split at hf
  ·rename_i x T T2 h1 h2 h3;obtain⟨e,hv⟩:=hf;subst e;refine⟨c,x,_,ho,h1,h2,h3,?_⟩;split at hv
   ·rename_i z els hx;exact .inl ⟨z,els,hx⟩
   ·rename_i hx;exact .inr hx
   ·exact hv.elim
  ·exact hf.elim
 ·exact hf.elim
theorem lB.shape{E:Env}{o:Oper}{st:St}(hf:lB o st):Xe E o st:=by
 obtain⟨c,x,T,ho,h1,h2,h3,hv⟩:=hf.call;have hn:di st (.const (.slice none 0 0))=.nil:=rfl;unfold Xe;rw [ho];simp only [sem,h1,h2,h3,if_true];unfold fM;cases hT:cm E.P T with
 | none=>exact⟨False,fun _=>.top,none,fun h=>rfl⟩
 | some e=>
  rcases hv with⟨z,els,hv⟩|hv
  ·simp only [hv,hn];exact⟨_,fun n=>.bw (E.key+o.dst.getD 0) n _,some _,fun h=>rfl⟩
  ·simp only [hv,hn];exact⟨_,fun n=>.bw (E.key+o.dst.getD 0) n _,some _,fun h=>rfl⟩
theorem lB.agree{ops:List Oper}{o:Oper}{st st':St}(h:∀k∈looks ops o,st.t k=st'.t k)(hf:lB o st):lB o st':=by
 obtain⟨c,x,T,ho,h1,h2,h3,hv⟩:=hf.call;have hx:di st' x=di st x:=by unfold di;rw [gG h x (by simp [ho,Op.operands,Call.operands,h1];rw [<-Array.mem_toList_iff,h2];simp)]
 unfold lB;simp only [ho,h1,h2,h3,true_and,hx];rcases hv with⟨z,els,hv⟩|hv<;>rw [hv]<;>trivial
theorem lB.iF{o:Oper}{st:St}(hf:lB o st):iF o=true:=by obtain⟨c,x,T,ho,h1,h2,h3,hv⟩:=hf.call;simp only [Sx.iF,ho,h1]
theorem jB{E:Env}{fr:List Nat}{i:Nat}{o:Oper}{st:St}(h:En fr i o=true)(hn:fr.contains (i+3000)=true->lB o st):Xe E o st:=by
 unfold En at h;rw [Bool.or_eq_true]at h;rcases h with h|h
 ·obtain⟨c,v,B,e⟩:=awn (E:=E) (d:=o.dst.getD 0) h (di st);exact⟨c,v,B,e⟩
 ·exact(hn h).shape
theorem MK{E:Env}{x y:Oper}{a b:Nat}(dx:x.dst=some a)(dy:y.dst=some b)(v0:a≠b){st:St}(hx:Xe E x st)(hy:Xe E y st)(g:Bool) :
  (sem E (y.dst.getD 0) y.op (di st) (nD g (sem E (x.dst.getD 0) x.op (di st) st.h).h st.h)).v=(sem E (y.dst.getD 0) y.op (di st) st.h).v/\
  ((sem E (y.dst.getD 0) y.op (di st) (nD g (sem E (x.dst.getD 0) x.op (di st) st.h).h st.h)).c=(sem E (y.dst.getD 0) y.op (di st) st.h).c):=by
 have hk:E.key+a≠E.key+b:=fun e=>v0 (Nat.add_left_cancel e);obtain⟨c1,v1,B1,e1⟩:=hx;obtain⟨c2,v2,B2,e2⟩:=hy;rw [dx]at e1 ⊢;rw [dy]at e2 ⊢;simp only [Option.getD_some]at e1 e2 ⊢;simp only [e1,e2];cases g
 ·exact⟨by simp only [nD],trivial⟩
 ·exact⟨by simp only [nD,Es _ hk],trivial⟩
theorem ML{E:Env}{x y:Oper}{a b:Nat}(dx:x.dst=some a)(dy:y.dst=some b)(v0:a≠b){st:St}(hx:Xe E x st)(hy:Xe E y st)(g g':Bool) :
  nD g' (sem E (y.dst.getD 0) y.op (di st) (nD g (sem E (x.dst.getD 0) x.op (di st) st.h).h st.h)).h (nD g (sem E (x.dst.getD 0) x.op (di st) st.h).h st.h) =
  nD g (sem E (x.dst.getD 0) x.op (di st) (nD g' (sem E (y.dst.getD 0) y.op (di st) st.h).h st.h)).h (nD g' (sem E (y.dst.getD 0) y.op (di st) st.h).h st.h):=by
 have hk:E.key+a≠E.key+b:=fun e=>v0 (Nat.add_left_cancel e);obtain⟨c1,v1,B1,e1⟩:=hx;obtain⟨c2,v2,B2,e2⟩:=hy;rw [dx]at e1 ⊢;rw [dy]at e2 ⊢;simp only [Option.getD_some]at e1 e2 ⊢;simp only [e1,e2];cases g<;>cases g'<;>simp only [nD];exact Hs _ hk _ _
theorem Et{E:Env}{ops:List Oper}{x y:Oper}{a b:Nat}(dx:x.dst=some a)(dy:y.dst=some b)(v0:a≠b){st:St}(hx:Xe E x st)(hy:Xe E y st)(ey:∀k∈looks ops y,(step E ops x st).2.t k=st.t k):eR E ops y (step E ops x st).2=eR E ops y st:=by have hh:(step E ops x st).2.h=nD (fI ops st x.guard).2 (sem E (x.dst.getD 0) x.op (di st) st.h).h st.h:=rfl;obtain⟨n1,n2⟩:=MK (E:=E) dx dy v0 hx hy (fI ops st x.guard).2;unfold eR;simp only;rw [eD ey,jT y.op (fun z hz=>gG ey z hz),fG ey,hh,n1,n2]
theorem o8.load{o:Oper}{st:St}(hf:o8 o st):∃T a s i n e j B,o.op=.load T a/\di st a=.bG s i n e j/\aL st.h s i=some B/\B.fz=true:=by
 unfold o8 at hf;split at hf
 ·rename_i T a ho;split at hf
  ·rename_i s i n e j hv;split at hf
   ·rename_i B hB;exact⟨T,a,s,i,n,e,j,B,ho,hv,hB,hf⟩
   ·exact hf.elim
  ·exact hf.elim
 ·exact hf.elim
def KF(h h':Hp):Prop:=∀s i B,B.fz=true->(aL h s i=some B↔aL h' s i=some B)
omit [aO]in
theorem KF.refl(h:Hp):KF h h:=fun _ _ _ _=>Iff.rfl
omit [aO]in
theorem KF.symm{h h':Hp}(k:KF h h'):KF h' h:=fun s i B hB=>(k s i B hB).symm
omit [aO]in
theorem KF.push(h:Hp)(s:Nat){B:dZ}(hB:B.fz=false):KF h (bD h s B):=by
 intro s' i' B' mg;by_cases hs:s'=s/\i'=hnext h s
 ·obtain⟨rfl,rfl⟩:=hs;rw [dI];constructor
  ·intro hg;have:=JM hg;omega
  ·intro e;cases e;rw [hB]at mg;cases mg
 ·rw [eL h s s' i' B (fun e e'=>hs ⟨e,e'⟩)]
omit [aO]in
theorem KF.set{h:Hp}{s i:Nat}{B0 B:dZ}(hg:aL h s i=some B0)(h0:B0.fz=false)(hB:B.fz=false):KF h (bE h s i B):=by
 intro s' i' B' mg;by_cases hs:s'=s/\i'=i
 ·obtain⟨rfl,rfl⟩:=hs;rw [gH hg,hg];constructor
  ·intro e;cases e;rw [h0]at mg;cases mg
  ·intro e;cases e;rw [hB]at mg;cases mg
 ·rw [eW h B hs (kS hg)]
omit [aO]in
theorem Eu{E:Env}{key:Nat}{T:TypeId}{s x:V}{h:Hp}(hc:(fM E key T s x h).c):KF h (fM E key T s x h).h:=by
 unfold fM at hc ⊢;split
 ·exact .refl _
 ·rename_i e he;simp only [he]at hc;cases s<;>simp only at hc ⊢<;>(try exact .refl _)
  case nil=>exact .push _ _ rfl
  case bw s0 i0 n0=>
   cases hg:aL h s0 i0 with
   | none=>simp only [hg];exact .refl _
   | some B=>
    simp only [hg]at hc ⊢;exact .set hg hc.2.2.2.2.2.2.1 hc.2.2.2.2.2.2.1
  case gY s0 i0 n0 off len cap=>
   cases hg:aL h s0 i0 with
   | none=>simp only [hg];exact .refl _
   | some B=>
    simp only [hg]at hc ⊢;exact .set hg hc.2.2.2.2.2.1 hc.2.2.2.2.2.1
  case emp=>exact iteInduction (motive:=fun o=>KF h (Out.h o)) (fun _=>.refl _) (fun _=>.push _ _ rfl)
omit [aO]in
theorem CD{P:Program}{own:Bool}{key:Nat}{T T2:TypeId}{s x:V}{h:Hp}:KF h (gI P own key T T2 s x h).h:=by
 unfold gI;split
 ·exact .push _ _ rfl
 ·exact .refl _
omit [aO]in
theorem P4{E:Env}{o:Oper}{ρ:Operand->V}{h:Hp}(hk:iF o=true)(hc:(sem E (o.dst.getD 0) o.op ρ h).c):KF h (sem E (o.dst.getD 0) o.op ρ h).h:=by
 obtain⟨dst,op,ty,pos,aft,gd⟩:=o;cases op<;>simp only [iF,Bool.false_eq_true]at hk
 case alloc=>exact .push _ _ rfl
 case box=>exact .push _ _ rfl
 case buildSlice T n parts=>
  simp only [sem,dK]at hc ⊢;split
  ·rw [uL];exact .refl _
  split
  ·split
   ·exact .push _ _ rfl
   ·exact .refl _
  ·exact .refl _
 case store T a x=>
  simp only [sem]at hc ⊢;unfold nq at hc ⊢;cases ha:ρ a<;>simp only [ha]at hc ⊢<;>(try exact .refl _)
  case bG s i n e j=>
   cases hg:aL h s i with
   | none=>simp only [hg];exact .refl _
   | some B=>
    simp only [hg]at hc ⊢;exact .set hg hc.2.2.2.2.1 hc.2.2.2.2.1
 case makeSlice T l c=>
  simp only [sem]at hc ⊢;unfold eG;split
  ·split
   ·exact .push _ _ rfl
   ·exact .push _ _ rfl
  ·exact .refl _
 case call c=>
  cases mK:c.callee with
  | value f=>rw [mK]at hk;cases hk
  | invoke r m=>rw [mK]at hk;cases hk
  | builtin b=>
   rw [mK]at hk;cases b<;>simp only [Bool.false_eq_true]at hk;simp only [sem,mK]at hc ⊢;split
   ·rename_i s x T T2 ha ht;simp only [ha,ht]at hc;split
    ·rename_i e;rw [if_pos e]at hc;exact Eu hc
    ·exact CD
   ·exact .refl _
theorem kT{E:Env}{ops:List Oper}{o:Oper}{st:St}(hk:iF o=true)(hc:(step E ops o st).1):KF st.h (step E ops o st).2.h:=by
 rw [step_eq]at hc ⊢;simp only [eR]at hc ⊢;cases hg:(fI ops st o.guard).2 with
 | false=>exact .refl _
 | true=>exact P4 hk (hc.2.2 hg).2
theorem o8.agree{ops:List Oper}{o:Oper}{st st':St}(h:∀k∈looks ops o,st.t k=st'.t k)(hk:KF st.h st'.h)(hf:o8 o st):o8 o st':=by
 obtain⟨T,a,s,i,n,e,j,B,ho,hv,hB,hz⟩:=hf.load;have fJ:di st' a=.bG s i n e j:=by rw [<-hv];unfold di;rw [gG h a (by simp [ho,Op.operands])]
 unfold o8;simp only [ho,fJ,(hk s i B hz).1 hB,hz]
theorem o8.cls{E:Env}{o:Oper}{st:St}(hf:o8 o st):oZ E o=1:=by obtain⟨T,a,s,i,n,e,j,B,ho,-⟩:=hf.load;simp only [oZ,ho]
theorem Ev{E:Env}{ops:List Oper}{o:Oper}{st st':St}(h:∀k∈looks ops o,st.t k=st'.t k)(hk:KF st.h st'.h)(hf:o8 o st):eR E ops o st'=eR E ops o st:=by
 obtain⟨T,a,s,i,n,e,j,B,ho,hv,hB,hz⟩:=hf.load;have hs:sem E (o.dst.getD 0) o.op (di st) st'.h={sem E (o.dst.getD 0) o.op (di st) st.h with h:=st'.h}:=by rw [ho];simp only [sem,l9,hv,hB,(hk s i B hz).1 hB]
 unfold eR;simp only;rw [<-eD h,<-jT o.op (fun x hx=>gG h x hx),<-fG h,hs]
theorem cQ.cls{E:Env}{ops:List Oper}{o:Oper}{st:St}(hf:cQ E ops o st):oZ E o=1:=by
 unfold cQ at hf;split at hf
 ·rename_i T a ho;simp only [oZ,ho]
 ·rename_i T a ix ho;simp only [oZ,ho]
 ·exact hf.elim
theorem cQ.agree{E:Env}{ops:List Oper}{o:Oper}{st st':St}(h:∀k∈looks ops o,st.t k=st'.t k)(hf:cQ E ops o st):cQ E ops o st':=by
 unfold cQ at hf ⊢;split at hf
 ·rename_i T a ho;have:di st' a=di st a:=by unfold di;rw [gG h a (by simp [ho,Op.operands])]
  simp only [this];exact hf
 ·rename_i T a ix ho;have:di st' a=di st a:=by unfold di;rw [gG h a (by simp [ho,Op.operands])]
  simp only [this];exact hf
 ·exact hf.elim
omit [aO]in
theorem Ht{E:Env}{o:Oper}(h:kq o=true)(ρ:Operand->V)(hρ:ρ (.const (.slice none 0 0))=.nil)(hp:Hp):∃B:Option dZ,(sem E (o.dst.getD 0) o.op ρ hp).h=mO hp (E.key+o.dst.getD 0) B:=by
 obtain⟨dst,op,ty,pos,aft,gd⟩:=o;cases op<;>simp only [kq,Bool.false_eq_true]at h
 case alloc T=>exact⟨some _,rfl⟩
 case box T x=>exact⟨some _,rfl⟩
 case buildSlice T n parts=>
  simp only [sem,dK];split
  ·exact⟨none,uL _ _ _ _ _⟩
  split
  ·split
   ·exact⟨some _,rfl⟩
   ·exact⟨none,rfl⟩
  ·exact⟨none,rfl⟩
 case makeSlice T l c=>
  simp only [sem];unfold eG;split
  ·split
   ·exact⟨some _,rfl⟩
   ·exact⟨some _,rfl⟩
  ·exact⟨none,rfl⟩
 case call c=>
  unfold CE at h;split at h
  ·rename_i x h1 h2;simp only [sem,h1,h2];split
   ·rename_i s x' T T2 e1 e2;simp only [List.cons.injEq,and_true]at e1;obtain⟨rfl,rfl⟩:=e1;have hn:ρ (.const (.slice none 0 0))=.nil:=hρ;split
    ·unfold fM;rw [hn];split
     ·exact⟨none,rfl⟩
     ·exact⟨some _,rfl⟩
    ·unfold gI;split
     ·exact⟨some _,rfl⟩
     ·exact⟨none,rfl⟩
   ·exact⟨none,rfl⟩
  ·cases h
omit [aO]in
theorem rY(h:Hp){s k:Nat}(hs:s≠k)(B:Option dZ)(i:Nat):aL (mO h k B) s i=aL h s i:=by
 cases B with
 | none=>rfl
 | some B=>exact eL h k s i B (fun e=>absurd e hs)
theorem Bb{E:Env}{ops:List Oper}{o:Oper}{st:St}(hk:kq o=true):∃B:Option dZ,(step E ops o st).2.h=mO st.h (E.key+o.dst.getD 0) B:=by
 rw [step_eq];simp only;cases (fI ops st o.guard).2 with
 | false=>exact⟨none,rfl⟩
 | true=>exact Ht hk _ rfl _
omit [aO]in
theorem vN{o:Oper}(h:kq o=true):iF o=true:=by
 unfold kq at h;unfold iF;split at h<;>first|(rename_i ho;simp only [ho];done)|(cases h;done)|skip
 rename_i c ho;rw [ho];unfold CE at h;split at h
 ·rename_i h1 h2;simp only [h1]
 ·cases h
theorem Ew{E:Env}{ops:List Oper}{o y:Oper}{st st':St}(h:∀k∈looks ops o,st.t k=st'.t k)(hy:me ops y=true){B:Option dZ}(hh:st'.h=mO st.h (E.key+y.dst.getD 0) B)(hf:cQ E ops o st):eR E ops o st'=eR E ops o st:=by
 simp only [me,Bool.and_eq_true,List.any_eq_true,beq_iff_eq]at hy;obtain⟨za,q,hq,z3,P5⟩:=hy;have key:∀{s:Nat},(ops.all fun q=>!kq q || E.key+q.dst.getD 0 != s)=true->s≠E.key+y.dst.getD 0:=by intro s ha e;have:=List.all_eq_true.1 ha q hq;rw [z3,P5,e]at this;simp at this
 have hs:sem E (o.dst.getD 0) o.op (di st) st'.h={sem E (o.dst.getD 0) o.op (di st) st.h with h:=st'.h}:=by
  unfold cQ at hf;split at hf
  ·rename_i T a ho;split at hf
   ·rename_i s i n e j hv;have hg:=rY st.h (key hf) B i;rw [<-hh]at hg;rw [ho];simp only [sem,l9,hv,hg];split<;>rfl
   ·exact hf.elim
  ·rename_i T a ix ho;rw [ho];simp only [sem];split at hf
   ·rename_i s i n e j hv;rw [hv];unfold ef;cases di st ix<;>try rfl
    cases cm E.P T<;>cases cS E.P T<;>rfl
   ·rename_i s i n hv;have hg:=rY st.h (key hf) B i;rw [<-hh]at hg;rw [hv];unfold ef;cases di st ix<;>try rfl
    cases cm E.P T<;>cases cS E.P T<;>(try rfl)<;>simp only [hg]<;>split<;>rfl
   ·rename_i s i n off len cap hv;have hg:=rY st.h (key hf) B i;rw [<-hh]at hg;rw [hv];unfold ef;cases di st ix<;>try rfl
    cases cm E.P T<;>cases cS E.P T<;>(try rfl)<;>simp only [hg]<;>split<;>rfl
   ·exact hf.elim
  ·exact hf.elim
 unfold eR;simp only;rw [<-eD h,<-jT o.op (fun x hx=>gG h x hx),<-fG h,hs]
def P6(E:Env)(ops:List Oper)(fr:List Nat)(i:Nat)(o:Oper)(st:St):Prop:=Fre E fr i o st/\(fr.contains (i+1000)=true->o8 o st)/\(fr.contains (i+2000)=true->cQ E ops o st)/\(fr.contains (i+3000)=true->lB o st)
theorem MM{E:Env}{ops:List Oper}{fr:List Nat}{i j:Nat}{x y:Oper}(h:A4 E ops fr i x j y=true)(st:St)(D1:P6 E ops fr i x st)(D2:P6 E ops fr j y (step E ops x st).2)(hC:(step E ops x st).1/\(step E ops y (step E ops x st).2).1) :
  ((step E ops y (step E ops x st).2).2=(step E ops x (step E ops y st).2).2/\
  (step E ops y st).1/\(step E ops x (step E ops y st).2).1)/\P6 E ops fr j y st/\P6 E ops fr i x (step E ops y st).2:=by
 obtain⟨d1,z1,f1,w1⟩:=D1;obtain⟨d2,z2,f2,w2⟩:=D2;simp only [A4,Bool.and_eq_true]at h;obtain⟨ha,hc⟩:=h;obtain⟨a1,a2,a3⟩:=Eo ha;have v6:Hq E fr i x=0\/(Hq E fr j y=0)\/(Hq E fr i x=1/\Hq E fr j y=1)\/Cy fr i x j y=true\/(fr.contains (i+1000)=true/\iF y=true)\/(fr.contains (j+1000)=true/\iF x=true)\/(fr.contains (i+2000)=true/\me ops y=true)\/(fr.contains (j+2000)=true/\me ops x=true):=by
  simp only [aa1,Bool.or_eq_true,Bool.and_eq_true,beq_iff_eq]at hc;rcases hc with((((((h|h)|h)|h)|h)|h)|h)|h
  ·exact .inl h
  ·exact .inr (.inl h)
  ·exact .inr (.inr (.inl h))
  ·exact .inr (.inr (.inr (.inl h)))
  ·exact .inr (.inr (.inr (.inr (.inl h))))
  ·exact .inr (.inr (.inr (.inr (.inr (.inl h)))))
  ·exact .inr (.inr (.inr (.inr (.inr (.inr (.inl h))))))
  ·exact .inr (.inr (.inr (.inr (.inr (.inr (.inr h))))))
 have ey:∀k∈looks ops y,(step E ops x st).2.t k=st.t k:=Ba a1;have ex:∀k∈looks ops x,(step E ops y st).2.t k=st.t k:=Ba a3;have d2':Fre E fr j y st:=fun h=>(d2 h).agree ey;have d1':Fre E fr i x (step E ops y st).2:=fun h=>(d1 h).agree (fun k hk=>(ex k hk).symm);have hy:∀st':St,(step E ops y st').2={t:=o7 st'.t y.dst (eR E ops y st').2,h:=kD E ops y st'}:=fun _=>rfl;have hx:∀st':St,(step E ops x st').2={t:=o7 st'.t x.dst (eR E ops x st').2,h:=kD E ops x st'}:=fun _=>rfl;have py:∀st':St,(step E ops y st').1=(eR E ops y st').1:=fun _=>rfl;have px:∀st':St,(step E ops x st').1=(eR E ops x st').1:=fun _=>rfl;have xh:∀st',(step E ops x st').2.h=kD E ops x st':=fun _=>rfl;have yh:∀st',(step E ops y st').2.h=kD E ops y st':=fun _=>rfl;have w2':fr.contains (j+3000)=true->lB y st:=fun hj=>(w2 hj).agree ey;have w1':fr.contains (i+3000)=true->lB x (step E ops y st).2:=fun hi=>(w1 hi).agree (fun k hk=>(ex k hk).symm);have kn:∀{i:Nat} {b:Oper},En fr i b=true->(fr.contains (i+3000)=true->lB b st)->iF b=true:=by
  intro i b hb hw;unfold En at hb;rw [Bool.or_eq_true]at hb;rcases hb with hb|hb
  ·revert hb;cases z4:b.op<;>simp [JK,iF,z4]
  ·exact(hw hb).iF
 have Xf:∀{o:Oper},me ops o=true->kq o=true:=by intro o h;simp only [me,Bool.and_eq_true]at h;exact h.1
 have kx:fr.contains (j+1000)=true->KF st.h (step E ops x st).2.h:=by
  intro hj;have c1:=(z2 hj).cls (E:=E);have ky:Hq E fr j y=1:=by unfold Hq;rw [if_neg (by simp only [hj];simp)];exact c1
  rcases v6 with h|h|⟨h,h'⟩|h|⟨h,h'⟩|⟨h,h'⟩|⟨h,h'⟩|⟨h,h'⟩
  ·rw [xh,gw d1 (by omega)];exact .refl _
  ·omega
  ·rw [xh,gw d1 (by omega)];exact .refl _
  ·obtain⟨_,_,hb,_⟩:=jS h;exact kT (kn hb w1) hC.1
  ·rw [xh,dL (by rw [(z1 h).cls (E:=E)];exact Nat.le_refl _)];exact .refl _
  ·exact kT h' hC.1
  ·rw [xh,dL (by rw [(f1 h).cls];exact Nat.le_refl _)];exact .refl _
  ·exact kT (vN (Xf h')) hC.1
 have f2':fr.contains (j+2000)=true->cQ E ops y st:=fun hj=>(f2 hj).agree ey;have f1':fr.contains (i+2000)=true->cQ E ops x (step E ops y st).2:=fun hi=>(f1 hi).agree (fun k hk=>(ex k hk).symm);have z2':fr.contains (j+1000)=true->o8 y st:=fun hj=>(z2 hj).agree ey (kx hj).symm;have vy:eR E ops y (step E ops x st).2=eR E ops y st:=by
  rcases v6 with h|h|⟨h,h'⟩|h|⟨h,h'⟩|⟨h,h'⟩|⟨h,h'⟩|⟨h,h'⟩
  ·exact fh ey (.inl (by rw [xh];exact gw d1 (by omega)))
  ·exact yt ey (d2'.zero h)
  ·exact fh ey (.inl (by rw [xh];exact gw d1 (by omega)))
  ·obtain⟨_,_,hb,hb',dx,dy,v0⟩:=jS h;exact Et dx dy v0 (jB hb w1) (jB hb' w2') ey
  ·exact fh ey (.inl (by rw [xh];exact dL (by rw [(z1 h).cls (E:=E)];exact Nat.le_refl _)))
  ·exact Ev (fun k hk=>(ey k hk).symm) (kx h) (z2' h)
  ·exact fh ey (.inl (by rw [xh];exact dL (by rw [(f1 h).cls];exact Nat.le_refl _)))
  ·obtain⟨B,hB⟩:=Bb (E:=E) (ops:=ops) (st:=st) (Xf h');exact Ew (fun k hk=>(ey k hk).symm) h' hB (f2' h)
 have vb:(step E ops y st).1:=by rw [py,<-vy,<-py];exact hC.2
 have ky:fr.contains (i+1000)=true->KF st.h (step E ops y st).2.h:=by
  intro hi;have c1:=(z1 hi).cls (E:=E);have kx:Hq E fr i x=1:=by unfold Hq;rw [if_neg (by simp only [hi];simp)];exact c1
  rcases v6 with h|h|⟨h,h'⟩|h|⟨h,h'⟩|⟨h,h'⟩|⟨h,h'⟩|⟨h,h'⟩
  ·omega
  ·rw [yh,gw d2' (by omega)];exact .refl _
  ·rw [yh,gw d2' (by omega)];exact .refl _
  ·obtain⟨_,_,hb,hb',_⟩:=jS h;exact kT (kn hb' w2') vb
  ·exact kT h' vb
  ·rw [yh,dL (by rw [(z2' h).cls (E:=E)];exact Nat.le_refl _)];exact .refl _
  ·exact kT (vN (Xf h')) vb
  ·rw [yh,dL (by rw [(f2' h).cls];exact Nat.le_refl _)];exact .refl _
 have z1':fr.contains (i+1000)=true->o8 x (step E ops y st).2:=fun hi=>(z1 hi).agree (fun k hk=>(ex k hk).symm) (ky hi);have vx:eR E ops x (step E ops y st).2=eR E ops x st:=by
  rcases v6 with h|h|⟨h,h'⟩|h|⟨h,h'⟩|⟨h,h'⟩|⟨h,h'⟩|⟨h,h'⟩
  ·exact yt ex (d1.zero h)
  ·exact fh ex (.inl (by rw [yh];exact gw d2' (by omega)))
  ·exact fh ex (.inl (by rw [yh];exact gw d2' (by omega)))
  ·obtain⟨_,_,hb,hb',dx,dy,v0⟩:=jS h;exact Et dy dx (Ne.symm v0) (jB hb' w2') (jB hb w1) ex
  ·exact Ev (fun k hk=>(ex k hk).symm) (ky h) (z1 h)
  ·exact fh ex (.inl (by rw [yh];exact dL (by rw [(z2' h).cls (E:=E)];exact Nat.le_refl _)))
  ·obtain⟨B,hB⟩:=Bb (E:=E) (ops:=ops) (st:=st) (Xf h');exact Ew (fun k hk=>(ex k hk).symm) h' hB (f1 h)
  ·exact fh ex (.inl (by rw [yh];exact dL (by rw [(f2' h).cls];exact Nat.le_refl _)))
 refine⟨⟨?_,vb,?_⟩,⟨d2',z2',f2',w2'⟩,⟨d1',z1',f1',w1'⟩⟩
 ·rw [hy (step E ops x st).2,hx (step E ops y st).2,vy,vx];have et:o7 (step E ops x st).2.t y.dst (eR E ops y st).2=o7 (step E ops y st).2.t x.dst (eR E ops x st).2:=P3 st.t _ _ a2;have eh:kD E ops y (step E ops x st).2=kD E ops x (step E ops y st).2:=by
   rcases v6 with h|h|⟨h,h'⟩|h|⟨h,h'⟩|⟨h,h'⟩|⟨h,h'⟩|⟨h,h'⟩
   ·rw [gw d1' (by omega),iM ey (by rw [xh];exact gw d1 (by omega)),yh]
   ·rw [gw d2 (by omega),iM ex (by rw [yh];exact gw d2' (by omega)),xh]
   ·rw [gw d2 (by omega),gw d1' (by omega),xh,yh,gw d1 (by omega),gw d2' (by omega)]
   ·unfold kD;rw [eD ey,eD ex,fG ey,fG ex,xh,yh];obtain⟨_,_,hb,hb',dx,dy,v0⟩:=jS h;exact ML dx dy v0 (jB hb w1) (jB hb' w2') _ _
   ·have c1:oZ E x<=1:=(by rw [(z1 h).cls (E:=E)];exact Nat.le_refl _);rw [dL c1,iM ey (by rw [xh];exact dL c1),yh]
   ·have c1:oZ E y<=1:=(by rw [(z2' h).cls (E:=E)];exact Nat.le_refl _);rw [dL c1,iM ex (by rw [yh];exact dL c1),xh]
   ·have c1:oZ E x<=1:=(by rw [(f1 h).cls];exact Nat.le_refl _);rw [dL c1,iM ey (by rw [xh];exact dL c1),yh]
   ·have c1:oZ E y<=1:=(by rw [(f2' h).cls];exact Nat.le_refl _);rw [dL c1,iM ex (by rw [yh];exact dL c1),xh]
  rw [et,eh]
 ·rw [px,vx,<-px];exact hC.1
theorem Bc(E:Env)(ops:List Oper)(o:Oper)(l:List Oper)(st:St):mP E ops (o::l) st=((step E ops o st).1/\(mP E ops l (step E ops o st).2).1,(mP E ops l (step E ops o st).2).2):=rfl
def CF(a b:Prop × St):Prop:=a.1->b.1/\a.2=b.2
omit [aO]in
theorem CF.refl(a:Prop × St):CF a a:=fun h=>⟨h,rfl⟩
omit [aO]in
theorem CF.trans{a b c:Prop × St}(h:CF a b)(h':CF b c):CF a c:=fun k=>⟨(h' (h k).1).1,(h k).2.trans (h' (h k).1).2⟩
theorem qt{E:Env}{ops:List Oper}{fr:List Nat}{i:Nat}{o:Oper}(ho:ops[i]?=some o)(l:List Nat)(st:St):iS E ops fr (i::l) st=((P6 E ops fr i o st/\(step E ops o st).1)/\(iS E ops fr l (step E ops o st).2).1,(iS E ops fr l (step E ops o st).2).2):=by rw [iS];simp only [ho];rfl
theorem CF.cons{E:Env}{ops:List Oper}{fr:List Nat}{i:Nat}{o:Oper}(ho:ops[i]?=some o){l l':List Nat}{st:St}(h:CF (iS E ops fr l (step E ops o st).2) (iS E ops fr l' (step E ops o st).2)):CF (iS E ops fr (i::l) st) (iS E ops fr (i::l') st):=by rw [qt ho,qt ho];exact fun k=>⟨⟨k.1,(h k.2).1⟩,(h k.2).2⟩
theorem yu{E:Env}{ops:List Oper}{fr:List Nat}{i:Nat}{x:Oper}(hx:ops[i]?=some x):∀(pre post:List Nat),(∀j∈pre,∃y,ops[j]?=some y/\A4 E ops fr j y i x=true)->∀st,CF (iS E ops fr (pre++i::post) st) (iS E ops fr (i::(pre++post)) st)
 | [],post,_,st=>CF.refl _
 | j::pre,post,h,st=>by obtain⟨y,hy,hc⟩:=h j (by simp);refine CF.trans (CF.cons hy (yu hx pre post (fun z hz=>h z (by simp [hz])) _)) ?_;simp only [List.cons_append,qt hx,qt hy];rintro⟨⟨d1,c1⟩,⟨d2,c2⟩,hr⟩;obtain⟨⟨hs,this⟩,d2',d1'⟩:=MM hc st d1 d2 ⟨c1,c2⟩;simp only at hr ⊢;rw [hs]at hr ⊢;exact⟨⟨⟨d2',this.1⟩,⟨d1',this.2⟩,hr⟩,rfl⟩
structure Left (n:Nat) (τ:List Nat) (listed:Array Bool) (rem:List Nat):Prop where
 sorted:rem.Pairwise (fun a b=>τ.idxOf a<τ.idxOf b)
 lt:∀i∈rem,i<n
 iff:∀i,i<n->(i∈rem↔listed.getD i true=false)
 size:listed.size=n
omit [aO]in
theorem Ey{E:Env}{ops:List Oper}{fr:List Nat}{N:List (Nat × Nat)}{τ:List Nat}(h:okT E ops fr N τ=true) :
  τ.Pairwise (fun a b=>τ.idxOf a<τ.idxOf b)/\(∀i∈τ,i<ops.length)/\(∀i,i<ops.length->i∈τ)/\∀j y,ops[j]?=some y->
   (∀e∈y.after,Region.binds .any e=true->e.on<ops.length/\τ.idxOf e.on<τ.idxOf j)/\∀i x,ops[i]?=some x->τ.idxOf i<τ.idxOf j->PZ y i=true\/A4 E ops fr i x j y=true\/(i,j)∈N\/(j,i)∈N\/CA ops i j=true:=by
 simp only [okT,Bool.and_eq_true,decide_eq_true_eq,List.all_eq_true,List.mem_range,List.contains_iff_mem]at h;obtain⟨⟨⟨h1,h2⟩,h3⟩,h4⟩:=h;refine⟨h1,h2,h3,fun j y hy=>?_⟩;have hj:j<ops.length:=(List.getElem?_eq_some_iff.1 hy).1;have h5:=h4 j hj;rw [hy]at h5;refine⟨fun e he JN=>?_,fun i x hx v3=>?_⟩
 ·have:=Array.all_eq_true_iff_forall_mem.1 h5.1 e he;simpa [JN]using this
 ·have hi:i<ops.length:=(List.getElem?_eq_some_iff.1 hx).1;have:=h5.2 i hi;simp only [v3,decide_true,Bool.not_true,Bool.false_or,Bool.or_eq_true,xe,hy,Cz,hx,List.contains_iff_mem]at this;rcases this with(((h|h)|h)|h)|h
  ·exact .inl h
  ·exact .inr (.inl h)
  ·exact .inr (.inr (.inl h))
  ·exact .inr (.inr (.inr (.inl h)))
  ·exact .inr (.inr (.inr (.inr h)))
omit [aO]in
theorem mem_ready{md:Region.Mode}{ops:Array Oper}{listed:Array Bool}{i:Nat}(h:i∈Region.ready md ops listed):i<ops.size/\listed.getD i true=false/\∀y,ops[i]?=some y->∀e∈y.after,Region.binds md e=true->listed.getD e.on false=true:=by simp only [Region.ready,List.mem_filter,List.mem_range,Bool.and_eq_true,Bool.not_eq_true']at h;obtain⟨h1,h2,h3⟩:=h;refine⟨h1,h2,fun y hy e he hb=>?_⟩;simp only [hy,Option.map_some,Option.getD_some]at h3;have:=Array.all_eq_true_iff_forall_mem.1 h3 e he;simpa [hb]using this
def Agree(τ L:List Nat)(p:Nat × Nat):Prop:=(τ.idxOf p.1<τ.idxOf p.2->¬ L.idxOf p.2<L.idxOf p.1)/\(τ.idxOf p.2<τ.idxOf p.1->¬ L.idxOf p.1<L.idxOf p.2)
omit [aO]in
theorem Hu{i a:Nat}{L:List Nat}(ha:a≠i):(i::L).idxOf a=L.idxOf a+1:=by
 have:(i == a)=false:=by simpa using fun h:i=a=>ha h.symm
 simp [List.idxOf_cons,this]
omit [aO]in
theorem yw{i a b:Nat}{L:List Nat}(ha:a≠i)(hb:b≠i):(i::L).idxOf a<(i::L).idxOf b↔L.idxOf a<L.idxOf b:=by rw [Hu ha,Hu hb];omega
theorem ab6{E:Env}{ops:List Oper}{fr:List Nat}{N:List (Nat × Nat)}{τ:List Nat}(hok:okT E ops fr N τ=true):∀(fuel t:Nat) (listed:Array Bool) (rem:List Nat) (st:St),Left ops.length τ listed rem->rem.length<=fuel->(∀a,listed.getD a false=true->∀d∈o5 ops a,listed.getD d false=true)->
  (∀p∈N,p.1∈rem->p.2∈rem->Agree τ (Region.linearise.go .any ops.toArray fuel t listed []) p)->
  CF (iS E ops fr rem st) (iS E ops fr (Region.linearise.go .any ops.toArray fuel t listed []) st):=by
 obtain⟨vs,v3,vr,aa3⟩:=Ey hok;intro fuel
 induction fuel with
 | zero=>
  intro t listed rem st hl hf _ _;have:rem=[]:=List.length_eq_zero_iff.1 (by omega);subst this;exact CF.refl _
 | succ fuel ih=>
  intro t listed rem st hl hf cZ hN;have fV:Region.linearise.go .any ops.toArray (fuel+1) t listed []=(match (Region.ready .any ops.toArray listed)[t % (Region.ready .any ops.toArray listed).length]? with
   | some i=>Region.linearise.go .any ops.toArray fuel (t / (Region.ready .any ops.toArray listed).length) (listed.setIfInBounds i true) [i]
   | none=>[].reverse):=rfl
  rw [fV]at hN ⊢;cases hi:(Region.ready .any ops.toArray listed)[t % (Region.ready .any ops.toArray listed).length]? with
  | none=>
   have Pz:Region.ready .any ops.toArray listed=[]:=by
    cases hr:Region.ready .any ops.toArray listed with
    | nil=>rfl
    | cons x xs=>
     rw [hr]at hi;have v3:t % (x::xs).length<(x::xs).length:=Nat.mod_lt _ (by simp);simp at hi;simp at v3;omega
   cases rem with
   | nil=>exact CF.refl _
   | cons i rem=>
    exfalso;have v4:i<ops.length:=hl.lt i (by simp);have hy:ops[i]?=some ops[i]:=List.getElem?_eq_getElem v4;have vd:=(aa3 i _ hy).1;have:i∈Region.ready .any ops.toArray listed:=by
     simp only [Region.ready,List.mem_filter,List.mem_range,Bool.and_eq_true,Bool.not_eq_true'];refine⟨by simpa using v4,(hl.iff i v4).1 (by simp),?_⟩;have hy':ops.toArray[i]?=some ops[i]:=(by simp [v4]);simp only [hy',Option.map_some,Option.getD_some];rw [Array.all_eq_true_iff_forall_mem];intro e he;by_cases JN:Region.binds .any e=true
     case neg=>simp [JN]
     obtain⟨P7,vW⟩:=vd e he JN;have vX:e.on ∉ i::rem:=by
      intro hm;rcases List.mem_cons.1 hm with h|h
      ·rw [h]at vW;omega
      ·have:=(List.pairwise_cons.1 hl.sorted).1 _ h;omega
     have va:¬ listed.getD e.on true=false:=fun h=>vX ((hl.iff e.on P7).2 h);have z0:e.on<listed.size:=(by rw [hl.size];exact P7);simp only [Array.getD_eq_getD_getElem?,Array.getElem?_eq_getElem z0,Option.getD_some,Bool.not_eq_false]at va ⊢;simp [va]
    rw [Pz]at this;cases this
  | some i=>
   rw [hi]at hN;simp only []at hN ⊢;rw [linearise_go_acc,List.reverse_singleton,List.singleton_append]at hN ⊢;obtain⟨v4,z5,vd⟩:=mem_ready (List.mem_of_getElem? hi);have P8:i<ops.length:=(by simpa using v4);have hx:ops[i]?=some ops[i]:=List.getElem?_eq_getElem P8;have z6:i∈rem:=(hl.iff i P8).2 z5;obtain⟨pre,post,rfl⟩:=List.append_of_mem z6;have v5:=List.pairwise_append.1 hl.sorted;have n1:i ∉ pre:=fun h=>absurd (v5.2.2 i h i (by simp)) (by omega);have n2:i ∉ post:=fun h=>absurd ((List.pairwise_cons.1 v5.2.1).1 i h) (by omega);have hl':Left ops.length τ (listed.setIfInBounds i true) (pre++post):=by
    refine⟨?_,fun j hj=>hl.lt j (by simp only [List.mem_append,List.mem_cons]at hj ⊢;rcases hj with h|h<;>simp [h]),fun j hj=>?_,by simpa using hl.size⟩
    ·rw [List.pairwise_append];exact⟨v5.1,(List.pairwise_cons.1 v5.2.1).2,fun a ha b hb=>v5.2.2 a ha b (by simp [hb])⟩
    ·have e1:=hl.iff j hj;have MN:j<listed.size:=(by rw [hl.size];exact hj);by_cases v7:j=i
     ·subst v7;simp [n1,n2,Array.getD_eq_getD_getElem?,MN]
     ·have:(listed.setIfInBounds i true).getD j true=listed.getD j true:=by simp only [Array.getD_eq_getD_getElem?];rw [Array.getElem?_setIfInBounds_ne (fun h=>v7 h.symm)]
      rw [this,<-e1];simp [v7]
   have aa4:∀d∈o5 ops i,listed.getD d false=true:=by intro d hd;simp only [o5,hx,List.mem_map,List.mem_filter]at hd;obtain⟨e,⟨he,hb⟩,rfl⟩:=hd;exact vd ops[i] (by simp [P8]) e (by simpa using he) hb
   have agD:∀a,(listed.setIfInBounds i true).getD a false=true->∀d∈o5 ops a,(listed.setIfInBounds i true).getD d false=true:=by
    have up:∀d,listed.getD d false=true->(listed.setIfInBounds i true).getD d false=true:=by
     intro d hd;simp only [Array.getD_eq_getD_getElem?]at hd ⊢;by_cases vP:d=i
     ·subst vP;have:d<listed.size:=(by rw [hl.size];exact P8);simp [this]
     ·rw [Array.getElem?_setIfInBounds_ne (fun h=>vP h.symm)];exact hd
    intro a ha d hd;by_cases v8:a=i
    ·subst v8;exact up d (aa4 d hd)
    ·refine up d (cZ a ?_ d hd);simp only [Array.getD_eq_getD_getElem?]at ha ⊢
     rwa [Array.getElem?_setIfInBounds_ne (fun h=>v8 h.symm)]at ha
   have ag6:∀j∈pre,∃y,ops[j]?=some y/\A4 E ops fr j y i ops[i]=true:=by
    intro j hj;have v9:j<ops.length:=hl.lt j (by simp [hj]);have vV:ops[j]?=some ops[j]:=List.getElem?_eq_getElem v9;refine⟨ops[j],vV,?_⟩;have v3:τ.idxOf j<τ.idxOf i:=v5.2.2 j hj i (by simp);have v7:j≠i:=(by rintro rfl;exact n1 hj);have e0:∀L:List Nat,(i::L).idxOf i<(i::L).idxOf j:=by intro L;rw [List.idxOf_cons_self,Hu v7];omega
    rcases(aa3 i _ hx).2 j _ vV v3 with h|h|h|h|h
    ·exfalso;simp only [PZ]at h;obtain⟨e,he,hb⟩:=Array.any_eq_true'.1 h;simp only [Bool.and_eq_true,beq_iff_eq]at hb;have wG:=vd ops[i] (by simp [P8]) e he hb.1;rw [hb.2]at wG;have:listed.getD j true=false:=(hl.iff j v9).1 (by simp [hj]);simp only [Array.getD_eq_getD_getElem?]at this wG;have MN:j<listed.size:=(by rw [hl.size];exact v9);rw [Array.getElem?_eq_getElem MN]at this wG;simp at this wG;rw [this]at wG;cases wG
    ·exact h
    ·exact absurd (e0 _) ((hN _ h (by simp [hj]) (by simp)).1 v3)
    ·exact absurd (e0 _) ((hN _ h (by simp) (by simp [hj])).2 v3)
    ·exfalso;have wG:=yo (C:=fun a=>listed.getD a false=true) cZ 6 (o5 ops i) aa4 j (List.contains_iff_mem.1 h);have:listed.getD j true=false:=(hl.iff j v9).1 (by simp [hj]);simp only [Array.getD_eq_getD_getElem?]at this wG;have MN:j<listed.size:=(by rw [hl.size];exact v9);rw [Array.getElem?_eq_getElem MN]at this wG;simp at this wG;rw [this]at wG;cases wG
   have hlen:(pre++post).length<=fuel:=(by simp only [List.length_append,List.length_cons]at hf ⊢;omega);refine CF.trans (yu hx pre post ag6 st) (CF.cons hx (ih _ _ _ _ hl' hlen agD ?_))
   ·rintro⟨a,b⟩ hp ha hb;have v8:a≠i:=(by rintro rfl;simp [n1,n2]at ha);have sN:b≠i:=(by rintro rfl;simp [n1,n2]at hb);have:=hN (a,b) hp (by simp only [List.mem_append,List.mem_cons]at ha ⊢;rcases ha with h|h<;>simp [h]) (by simp only [List.mem_append,List.mem_cons]at hb ⊢;rcases hb with h|h<;>simp [h]);simp only [Agree,yw v8 sN,yw sN v8]at this;exact this
omit [aO]in
theorem yx(L:List Nat):∀(N:List (Nat × Nat)) (cs:List (List Nat)),rU N cs=true->∃τ∈cs,∀p∈N,Agree τ L p
 | [],cs,h=>by
  cases cs with
  | nil=>simp [rU]at h
  | cons a r=>exact⟨a,by simp,by simp⟩
 | (i,j)::N,cs,h=>by
  simp only [rU,Bool.and_eq_true]at h;by_cases z7:L.idxOf j<L.idxOf i
  ·obtain⟨τ,hm,hN⟩:=yx L N _ h.2;simp only [List.mem_filter,decide_eq_true_eq]at hm;refine⟨τ,hm.1,fun p hp=>?_⟩;rcases List.mem_cons.1 hp with rfl|hp
   ·exact⟨fun h'=>absurd h' (by have:=hm.2;simp only;omega),fun _=>by simp only;omega⟩
   ·exact hN p hp
  ·obtain⟨τ,hm,hN⟩:=yx L N _ h.1;simp only [List.mem_filter,decide_eq_true_eq]at hm;refine⟨τ,hm.1,fun p hp=>?_⟩;rcases List.mem_cons.1 hp with rfl|hp
   ·exact⟨fun _=>z7,fun h'=>absurd h' (by have:=hm.2;simp only;omega)⟩
   ·exact hN p hp
omit [aO]in
theorem au1(ops:List Oper):(List.range ops.length).filterMap (ops[·]?)=ops:=by
 have h:∀(l r:List Oper),(List.range' l.length r.length).filterMap ((l++r)[·]?)=r:=by
  intro l r
  induction r generalizing l with
  | nil=>rfl
  | cons a r ih=>
   rw [List.length_cons,List.range'_succ,List.filterMap_cons_some (by simp:(l++a::r)[l.length]?=some a)];have:=ih (l++[a]);simp only [List.append_assoc,List.cons_append,List.nil_append,List.length_append,List.length_cons,List.length_nil]at this;rw [this]
 have:=h [] ops;simpa [List.range_eq_range']using this
theorem qu{E:Env}{ops:List Oper}{fr:List Nat}:∀(l:List Nat) (st:St),((iS E ops fr l st).1->(mP E ops (l.filterMap (ops[·]?)) st).1)/\(iS E ops fr l st).2=(mP E ops (l.filterMap (ops[·]?)) st).2
 | [],st=>⟨fun h=>h,rfl⟩
 | i::l,st=>by
  rw [iS];cases ho:ops[i]? with
  | none=>rw [List.filterMap_cons_none ho];exact qu l st
  | some o=>
   rw [List.filterMap_cons_some ho,Bc];have:=qu (E:=E) (ops:=ops) (fr:=fr) l (step E ops o st).2;exact⟨fun h=>⟨h.1.2,this.1 h.2⟩,this.2⟩
theorem uN{E:Env}{ops:List Oper}:∀(l:List Nat) (st:St),(mP E ops (l.filterMap (ops[·]?)) st).1->(iS E ops [] l st).1
 | [],st,h=>h
 | i::l,st,h=>by
  rw [iS]
  cases ho:ops[i]? with
  | none=>rw [List.filterMap_cons_none ho]at h;exact uN l st h
  | some o=>
   rw [List.filterMap_cons_some ho,Bc]at h
   exact⟨⟨⟨fun h=>by simp at h,fun h=>by simp at h,fun h=>by simp at h,fun h=>by simp at h⟩,h.1⟩,uN l _ h.2⟩
theorem Ez{E:Env}{ops:List Oper}{fr:List Nat}{K:St->Prop}{st:St}:∀{cs:List (List Nat)},runs E ops fr cs st K->∀τ∈cs,(iS E ops fr τ st).1/\K (iS E ops fr τ st).2
 | [],_,τ,h=>by cases h
 | c::cs,hr,τ,h=>by
  rcases List.mem_cons.1 h with rfl|h
  ·exact hr.1
  ·exact Ez hr.2 τ h
omit [aO]in
theorem kr{rd:Option Nat}{n:Nat}{P:Program}{ops:Array Oper}{Q:Exit->Act->World->Prop}:∀(l:List Nat) (a:Act) (w:World),wpListIn (jc rd) n P ops Q (l.filterMap (ops[·]?)) a w->wpOpsIn (jc rd) n P ops Q l a w
 | [],a,w,h=>h
 | i::l,a,w,h=>by
  unfold wpOpsIn;cases ho:ops[i]? with
  | none=>
   rw [List.filterMap_cons_none ho]at h;exact kr l a w h
  | some o=>
   rw [List.filterMap_cons_some ho]at h;unfold wpListIn at h;have e:∀a w,wpListIn (jc rd) n P ops Q (l.filterMap (ops[·]?)) a w->wpOpsIn (jc rd) n P ops Q l a w:=kr l;simp only;split
   ·rename_i hw;rw [if_pos hw]at h;obtain⟨h1,h2⟩:=h;refine⟨h1,?_⟩;revert h2;cases (o.semAt (jc rd).round a.eval).run P w with
    | ok x w'=>
     cases x with
     | value v=>exact e _ _
     | skip=>exact e _ _
     | defer d=>exact e _ _
     | enter f args=>exact fun h=>⟨h.1,h.2.mono fun x w' hx=>by cases x<;>first|exact e _ _ hx|exact hx⟩
     | row row args=>exact fun h=>⟨h.1,h.2.mono fun v w' hx=>e _ _ hx⟩
     | round l f tmps assign body=>exact fun h=>⟨h.1,h.2.mono fun x w' hx=>by cases x<;>first|exact e _ _ hx|exact hx⟩
     | _=>exact id
    | halt x w'=>cases x<;>exact id
   ·rename_i hw;rw [if_neg hw]at h;exact⟨h.1,e _ _ h.2⟩
theorem aa5{E:Env}(hT:nZ E){K:Fr->Hp->Prop}{rd:Option Nat}(ob:OW E K rd){n:Nat}{ops:Array Oper}{id:Nat}{Q:Exit->Act->World->Prop}{st:St}{a:Act}{w:World}{fr:List Nat}{cs:List (List Nat)}(hok:okM E ops.toList fr cs=true)(hR:R2 K E.nt st a w)(hr:runs E ops.toList fr cs st fun st'=>∀a' w',R2 K E.nt st' a' w'->Q .normal a' w'):(Code.region id ops true).wpIn (jc rd) n E.P Q a w:=by
 refine wpIn_region_draw fun t=>?_;refine kr _ _ _ ?_;have sO:R2 K E.nt st a {w with drawn:=w.drawn+1}:=by obtain⟨F,hF,⟨A,X,hI,ht,z8⟩,h1⟩:=hR;obtain⟨hl,fB⟩:=hI.drew;exact⟨F,hF,⟨A,X,fB,fun k=>⟨fun h=>((ht k).1 h).mono hl (fH.refl _),(ht k).2⟩,z8.carry (.of hl (fH.refl X))⟩,h1⟩
 simp only [okM,Bool.and_eq_true,List.all_eq_true,decide_eq_true_eq]at hok;obtain⟨⟨hm,amv⟩,amw⟩:=hok;have hok:=And.intro amv amw;have fin:∀t,wpListIn (jc rd) n E.P ops Q ((Region.linearise .any ops t).filterMap (ops[·]?)) a {w with drawn:=w.drawn+1}:=by
  intro t;obtain⟨τ,hτ,z9⟩:=yx (Region.linearise .any ops t) _ _ hok.2;have aa6:=(hok.1 τ hτ).2;obtain⟨vs,v3,vr,-⟩:=Ey aa6;have hL:Left ops.toList.length τ (Array.replicate ops.size false) τ:=by refine⟨vs,v3,fun i hi=>?_,by simp⟩;have:i<ops.size:=(by simpa using hi);simp [vr i hi,Array.getD_eq_getD_getElem?,this]
  have hlen:τ.length<=ops.size:=by simpa using (hok.1 τ hτ).1
  have hs:CF (iS E ops.toList fr τ st) (iS E ops.toList fr (Region.linearise .any ops t) st):=by have:=ab6 aa6 ops.size t (Array.replicate ops.size false) τ st hL hlen (fun a ha=>by simp [Array.getD_eq_getD_getElem?,Array.getElem?_replicate]at ha;split at ha<;>simp at ha) (fun p hp _ _=>by simpa [Region.linearise]using z9 p hp);simpa [Region.linearise]using this
  obtain⟨hc,hK⟩:=Ez hr τ hτ;obtain⟨Hv,he⟩:=hs hc;have hl:=qu (E:=E) (ops:=ops.toList) (fr:=fr) (Region.linearise .any ops t) st;have:=runK (Q:=Q) (n:=n) hT ob (ops:=ops.toList) ((Region.linearise .any ops t).filterMap (ops.toList[·]?)) st a _ sO (hl.1 Hv) (fun a' w' h=>hK a' w' (by rw [he,hl.2];exact h));simpa using this
 unfold Region.schedule;rw [hm];exact fin _
def dz(E:Env)(alt:jC):Code->Bool
 | .region id ops true=>match alt.lookup id with
  | none=>okM E ops.toList [] [List.range ops.toList.length]
  | some (fr,cs)=>okM E ops.toList fr cs
 | .seq a b=>dz E alt a && dz E alt b
 | .cond _ a b=>dz E alt a && dz E alt b
 | .block _ a=>dz E alt a
 | .loop a=>dz E alt a
 | .rangeFunc _ _ a b=>dz E alt a && dz E alt b
 | _=>true
end Go.Sx
end
