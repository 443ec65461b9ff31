/- A part of a proof; no conditions. -/
import Derived.Test.YtegiclpanpmkdaaGreatDoorR03
set_option linter.all false
set_option maxRecDepth 100000
set_option maxHeartbeats 8000000
noncomputable section
section
namespace Go.Sx
open Go.RowKit
variable [aO]
section
variable {F:Fr} {w:World} {A:Nat->Prop} {X:Refs} {h:Hp}
omit [aO]in
theorem cU{P:Program}{o:Oper}{a:Act}{w w':World}{next:Act->World->Prop}{Q:Exit->Act->World->Prop}{v:Value}(hr:(execOp a.eval o).run P w=.ok (.value v) w')(hn:next (a.put o.dst v) w'):o.wp P a w next Q:=by unfold Oper.wp;rw [hr];exact hn
omit [aO]in
theorem jv{P:Program}{s:Sem Value}{w w':World}{v:Value}(h:s.run P w=.ok v w'):(do pure (.value (<-s)):Sem Next).run P w=.ok (.value v) w':=by simp only [Sem.run_bind,h,Result.andThen_ok,Sem.run_pure]
omit [aO]in
theorem rE{P:Program}{k:IntKind}:∀(xs:List V) (us:List Value) (m:Int),xs.length=us.length->(∀(i:Nat) (x:V) (u:Value),xs[i]?=some x->us[i]?=some u->RV w A X x u)->(ig k true m xs).1->
  (us.foldlM Builtin.max2 (.int k m)).run P w=.ok (.int k (ig k true m xs).2) w
 | [],[],m,_,_,_=>rfl
 | [],_::_,_,hl,_,_=>by simp at hl
 | _::_,[],_,hl,_,_=>by simp at hl
 | x::xs,u::us,m,hl,hx,hc=>by
  have h0:=hx 0 x u rfl rfl;cases x<;>simp only [ig]at hc ⊢
  case int k' n=>
   obtain⟨rfl,hc⟩:=hc;rw [h0.dV];simp only [List.foldlM_cons,Builtin.max2,Sem.run_bind,Sem.run_pure,Result.andThen_ok];simp only [if_true]at hc;exact rE xs us _ (by simpa using hl) (fun i x u hi hu=>hx (i+1) x u (by simpa using hi) (by simpa using hu)) hc
omit [aO]in
theorem rF{P:Program}{k:IntKind}:∀(xs:List V) (us:List Value) (m:Int),xs.length=us.length->(∀(i:Nat) (x:V) (u:Value),xs[i]?=some x->us[i]?=some u->RV w A X x u)->(ig k false m xs).1->
  (us.foldlM Builtin.min2 (.int k m)).run P w=.ok (.int k (ig k false m xs).2) w
 | [],[],m,_,_,_=>rfl
 | [],_::_,_,hl,_,_=>by simp at hl
 | _::_,[],_,hl,_,_=>by simp at hl
 | x::xs,u::us,m,hl,hx,hc=>by
  have h0:=hx 0 x u rfl rfl;cases x<;>simp only [ig]at hc ⊢
  case int k' n=>
   obtain⟨rfl,hc⟩:=hc;rw [h0.dV];simp only [List.foldlM_cons,Builtin.min2,Sem.run_bind,Sem.run_pure,Result.andThen_ok];simp only [Bool.false_eq_true,if_false]at hc;exact rF xs us _ (by simpa using hl) (fun i x u hi hu=>hx (i+1) x u (by simpa using hi) (by simpa using hu)) hc
theorem ek{st:St}:∀{l:List Operand},CC st l->∀x∈l,(ev st x).1=true
 | [],_,x,hx=>by simp at hx
 | y::l,hv,x,hx=>by
  rcases List.mem_cons.1 hx with rfl|hx
  ·exact hv.1
  ·exact ek hv.2 x hx
theorem CW{st:St}{a:Act}(hv:∀x,(ev st x).1=true->RV w A X (di st x) (a.eval x)){l:List Operand}(hl:CC st l) :
  ∀(i:Nat) (x:V) (u:Value),(l.map (di st))[i]?=some x->(l.map a.eval)[i]?=some u->RV w A X x u:=by
 intro i x u hx hu;rw [List.getElem?_map]at hx hu;cases hi:l[i]? with
 | none=>simp [hi]at hx
 | some o=>simp [hi]at hx hu;subst hx hu;exact hv o (ek hl o (List.mem_of_getElem? hi))
theorem Inv.self(hI:Inv F w A X h):Inv ⟨w,A,X,jY X h⟩ w A X h:=by
 refine {gl:=hI.gl,oV:=hI.oV,iE:=fun b _ hA=>hA,ep:=fun b _ hA _=>hA,os:=rfl,tape:=rfl,output:=rfl,size:=Nat.le_refl _,same:=fun b _ _=>rfl,xle:=fH.refl X,nb:=hI.nb,inj:=hI.inj,blk:=?_};intro s i B hg;have ho:=hI.blk s i B hg;refine {hN:=ho.hN,hz:=ho.hz,hlen:=ho.hlen,rows:=ho.rows,mem:=?_};rcases ho.mem with hm|⟨arr,cap,g1,g2,g3,g4,g5,g6,g7,g8⟩
 ·exact .inl hm
 ·exact .inr ⟨arr,cap,g1,g2,g3,g4,g5,g6,g7,fun hf=>⟨(g8 hf).1,.inl ⟨s,i,B,hg,hf,by unfold Hd.real;rw [g2];simp,rfl⟩⟩⟩
theorem HU{E:Env}(hT:nZ E)(hyl:E.yl=none){dst:Option Tmp}{c:Call}{ty:TypeId}{pos:String}{after:Array Edge}{guard:Option (Nat × Bool)}{a:Act}{st:St}{d:Nat}{next:Act->World->Prop}{Q:Exit->Act->World->Prop}(hI:Inv F w A X h)
  (hv:∀x,(ev st x).1=true->RV w A X (di st x) (a.eval x)) (hok:valid st (.call c)) (hc:(sem E d (.call c) (di st) h).c)
  (hK:∀v w' A' X',bC w A w' A'->fH X X'->RV w' A' X' (sem E d (.call c) (di st) h).v v->Inv F w' A' X' (sem E d (.call c) (di st) h).h->next (a.put dst v) w') :
  (⟨dst,.call c,ty,pos,after,guard⟩:Oper).wp E.P a w next Q:=by
 obtain⟨callee,args,ats⟩:=c;have same:∀v,RV w A X (sem E d (.call ⟨callee,args,ats⟩) (di st) h).v v->(sem E d (.call ⟨callee,args,ats⟩) (di st) h).h=h->next (a.put dst v) w:=fun v h1 h2=>hK v w A X (bC.refl w A) (fH.refl X) h1 (by rw [h2];exact hI);cases callee with
 | invoke r m=>simp only [sem,bad]at hc
 | builtin b=>
  simp only [valid]at hok;have v3:=CW hv hok;cases b<;>simp only [sem,bad]at hc hK same
  case len=>
   cases v0:args.toList with
   | nil=>simp [v0]at hc
   | cons x r=>
    cases r with
    | cons=>simp [v0]at hc
    | nil=>
     cases v2:ats.toList with
     | nil=>simp [v0,v2]at hc
     | cons T r2=>
      cases r2 with
      | cons=>simp [v0,v2]at hc
      | nil=>
       simp only [v0,v2]at hc same;have hx:RV w A X (di st x) (a.eval x):=hv x (ek hok x (by rw [v0];simp));cases hl:(di st x).len with
       | none=>simp [sLen,hl,bad]at hc
       | some n=>
        simp only [sLen,hl]at hc same;obtain⟨e,hu⟩:=mG hc;obtain⟨ba,cp,z2⟩:=hx.KP hl;have ha:args = #[x]:=(by rw [<-Array.toArray_toList (xs:=args),v0]);have ht:ats = #[T]:=(by rw [<-Array.toArray_toList (xs:=ats),v2]);subst ha ht;refine cU (v:=.int .i64 n) (w':=w) ?_ (same _ (.pure (.int _ _)) trivial);simp [execOp,resolve,invoke,builtin,Builtin.len_,z2,run_underlying hu,goInt]
  case max=>
   cases v0:args.toList.map (di st)with
   | nil=>simp [v0,uM,bad]at hc
   | cons x r=>
    rw [v0]at hc same;cases x<;>simp only [uM,bad]at hc same
    case int k m=>
     cases v5:args.toList with
     | nil=>simp [v5]at v0
     | cons o os=>
      rw [v5]at v0 v3;simp only [List.map_cons,List.cons.injEq]at v0;have h0:=v3 0 (di st o) (a.eval o) (by simp) (by simp);rw [v0.1]at h0;have hf:=rE (P:=E.P) (w:=w) (A:=A) (X:=X) (k:=k) r (os.map a.eval) m (by rw [<-v0.2];simp) (fun i x u hi hu=>v3 (i+1) x u (by rw [<-v0.2]at hi;simpa using hi) (by simpa using hu)) hc;refine cU (v:=.int k (ig k true m r).2) (w':=w) ?_ (same _ (.pure (.int _ _)) trivial);have ha:(args.map a.eval).toList=a.eval o::os.map a.eval:=(by rw [Array.toList_map,v5];rfl);simp only [execOp,resolve,invoke,builtin,Builtin.max_,Sem.run_bind,Sem.run_pure,Result.andThen_ok,ha,h0.dV,hf]
  case min=>
   cases v0:args.toList.map (di st)with
   | nil=>simp [v0,uM,bad]at hc
   | cons x r=>
    rw [v0]at hc same;cases x<;>simp only [uM,bad]at hc same
    case int k m=>
     cases v5:args.toList with
     | nil=>simp [v5]at v0
     | cons o os=>
      rw [v5]at v0 v3;simp only [List.map_cons,List.cons.injEq]at v0;have h0:=v3 0 (di st o) (a.eval o) (by simp) (by simp);rw [v0.1]at h0;have hf:=rF (P:=E.P) (w:=w) (A:=A) (X:=X) (k:=k) r (os.map a.eval) m (by rw [<-v0.2];simp) (fun i x u hi hu=>v3 (i+1) x u (by rw [<-v0.2]at hi;simpa using hi) (by simpa using hu)) hc;refine cU (v:=.int k (ig k false m r).2) (w':=w) ?_ (same _ (.pure (.int _ _)) trivial);have ha:(args.map a.eval).toList=a.eval o::os.map a.eval:=(by rw [Array.toList_map,v5];rfl);simp only [execOp,resolve,invoke,builtin,Builtin.min_,Sem.run_bind,Sem.run_pure,Result.andThen_ok,ha,h0.dV,hf]
  case append=>
   split at hc
   ·rename_i s x T T2 v0 v2;by_cases OU:T2=T
    ·subst OU;simp only [v0,v2,if_true]at hc hK;have ha:args = #[s,x]:=(by rw [<-Array.toArray_toList (xs:=args),v0]);have ht:ats = #[T2,T2]:=(by rw [<-Array.toArray_toList (xs:=ats),v2]);subst ha ht;have hs:RV w A X (di st s) (a.eval s):=hv s (ek hok s (by simp));have hx:RV w A X (di st x) (a.eval x):=hv x (ek hok x (by simp));obtain⟨r,w',A',X',h1,h2,h3,h4,h5⟩:=Av (E:=E) (ty:=ty) hI hs hx hc;refine cU (v:=r) (w':=w') ?_ (hK r w' A' X' h2 h3 h5 h4);simp only [execOp,resolve,invoke,builtin,Sem.run_bind,Sem.run_pure,Result.andThen_ok,List.map_toArray,List.map_cons,List.map_nil,h1]
    ·simp only [v0,v2,if_neg OU]at hc hK;have ha:args = #[s,x]:=(by rw [<-Array.toArray_toList (xs:=args),v0]);have ht:ats = #[T,T2]:=(by rw [<-Array.toArray_toList (xs:=ats),v2]);subst ha ht;have hs:RV w A X (di st s) (a.eval s):=hv s (ek hok s (by simp));have hx:RV w A X (di st x) (a.eval x):=hv x (ek hok x (by simp));obtain⟨r,w',A',X',h1,h2,h3,h4,h5⟩:=Aw (P:=E.P) (ty:=ty) hI hs hx hc;refine cU (v:=r) (w':=w') ?_ (hK r w' A' X' h2 h3 h5 h4);simp only [execOp,resolve,invoke,builtin,Sem.run_bind,Sem.run_pure,Result.andThen_ok,List.map_toArray,List.map_cons,List.map_nil,h1]
   ·exact hc.elim
  case copy=>
   split at hc
   ·rename_i s x T T2 v0 v2;simp only [v0,v2]at hc hK;have ha:args = #[s,x]:=(by rw [<-Array.toArray_toList (xs:=args),v0]);have ht:ats = #[T,T2]:=(by rw [<-Array.toArray_toList (xs:=ats),v2]);subst ha ht;have hs:RV w A X (di st s) (a.eval s):=hv s (ek hok s (by simp));have hx:RV w A X (di st x) (a.eval x):=hv x (ek hok x (by simp));obtain⟨r,w',h1,h2,h3,h4⟩:=EZ (P:=E.P) (T2:=T2) (ty:=ty) hI hs hx hc;refine cU (v:=r) (w':=w') ?_ (hK r w' A X h2 (fH.refl X) h4 h3);simp only [execOp,resolve,invoke,builtin,Sem.run_bind,Sem.run_pure,Result.andThen_ok,List.map_toArray,List.map_cons,List.map_nil,h1]
   ·exact hc.elim
  case clear=>
   split at hc
   ·rename_i x T v0 v2;simp only [v0,v2]at hc hK;have ha:args = #[x]:=(by rw [<-Array.toArray_toList (xs:=args),v0]);have ht:ats = #[T]:=(by rw [<-Array.toArray_toList (xs:=ats),v2]);subst ha ht;have hx:RV w A X (di st x) (a.eval x):=hv x (ek hok x (by simp));obtain⟨r,w',h1,h2,h3,h4⟩:=CX (P:=E.P) (ty:=ty) hI hx hc;refine cU (v:=r) (w':=w') ?_ (hK r w' A X h2 (fH.refl X) h4 h3);simp only [execOp,resolve,invoke,builtin,Sem.run_bind,Sem.run_pure,Result.andThen_ok,List.map_toArray,List.map_cons,List.map_nil,h1]
   ·exact hc.elim
  case cap=>
   split at hc
   ·rename_i x T v0 v2;simp only [v0,v2]at hc same;have ha:args = #[x]:=(by rw [<-Array.toArray_toList (xs:=args),v0]);subst ha;have hx:RV w A X (di st x) (a.eval x):=hv x (ek hok x (by simp));cases vV:di st x<;>simp only [vV,sCap,bad]at hc same;rw [vV]at hx;obtain⟨e,hu⟩:=mG hc;have ht:ats = #[T]:=(by rw [<-Array.toArray_toList (xs:=ats),v2]);subst ht;refine cU (v:=.int .i64 0) (w':=w) ?_ (same _ (.pure (.int _ _)) trivial);simp [execOp,resolve,invoke,builtin,Builtin.cap_,hx.dY,run_underlying hu,goInt]
   ·exact hc.elim
  all_goals exact hc.elim
 | value f=>
  simp only [valid]at hok;clear same;simp only [sem]at hc hK;obtain⟨A1,CP,wO⟩:=hI.o6 E d (di st f);replace hv:∀x,(ev st x).1=true->RV w A1 X (di st x) (a.eval x):=fun x hx=>(hv x hx).mono CP (fH.refl X);replace hK:=fun v w' A' X' (hL:bC w A1 w' A')=>hK v w' A' X' (CP.trans hL);clear hI CP;generalize o6 E d (di st f) h=h at *;revert A1;intro A hv hI hK;have hf:=hv f hok.1;cases O4:di st f<;>simp only [O4,q9,bad,hyl]at hc hK
  case fn g caps=>
   rw [O4]at hf;obtain⟨us,HV,hl,v6⟩:=hf.nN;have v3:=CW hv hok.2;have hsz:((#[]:Array Value)++args.map a.eval++us).size=(args.toList.map (di st)++caps).length:=(by simp [hl]);have v0:∀(i:Nat) (c:V),(args.toList.map (di st)++caps)[i]?=some c->RV w A X c (((#[]:Array Value)++args.map a.eval++us).getD i gC):=by
    intro i c hi;rw [List.getElem?_append]at hi;split at hi
    ·rename_i v1;have v7:i<args.size:=(by simpa using v1);have e:((#[]:Array Value)++args.map a.eval++us).getD i gC=a.eval args[i]:=by simp [Array.getD_eq_getD_getElem?,Array.getElem?_append,v7]
     rw [e];exact v3 i c _ hi (by simp [v7])
    ·rename_i vd;have am3:args.size<=i:=(by simpa using vd);have e:((#[]:Array Value)++args.map a.eval++us).getD i gC=us.getD (i - args.size) gC:=by simp only [Array.getD_eq_getD_getElem?,Array.empty_append];rw [Array.getElem?_append,if_neg (by simp;omega)];simp
     rw [e];have:=v6 (i - args.size) c (by simpa using hi);exact this
   have hrun:∀S,dM E.P g S->(execOp a.eval ⟨dst,.call ⟨.value f,args,ats⟩,ty,pos,after,guard⟩).run E.P w=.ok (.enter g ((#[]:Array Value)++args.map a.eval++us)) w:=by intro S hS;simp only [execOp,resolve,HV,Deferred.ofValue,Sem.run_bind,Sem.run_pure,Result.andThen_ok,invoke,hS.call]
   unfold vM at hc hK;cases hS:E.fn g with
   | none=>simp [hS,bad]at hc
   | some S=>
    have v8:=hT g S hS;cases S with
    | pure S=>
     simp only [hS]at hc hK;obtain⟨c1,c2,c3,c4,c5⟩:=hc;unfold Oper.wp;rw [hrun _ v8];simp only [Oper.upon];refine(Nc (v8.pure S rfl) hI hsz v0 c1 c2 c3 c4 c5).mono fun e w' ⟨v,he,hL,fB,fJ⟩=>?_;subst he;exact hK v w' A X hL (fH.refl X) fJ fB
    | iter S=>simp only [hS,hyl,bad]at hc
    | heap S=>
     simp only [hS]at hc hK;unfold Oper.wp;rw [hrun _ v8];simp only [Oper.upon];have z3:Inv ⟨w,A,X,jY X h⟩ w A X h:=hI.self;refine(v8.heap S rfl _ h hc w A X _ z3 hsz v0).mono fun e w' ⟨v,A',X',he,fB,fJ⟩=>?_;subst he;obtain⟨k1,k2,k3⟩:=hI.back fB;exact hK v w' A' X' k1 k2 fJ k3
theorem RR{E:Env}(hT:nZ E)(hyl:E.yl=none){o:Oper}{a:Act}{st:St}{d:Nat}{next:Act->World->Prop}{Q:Exit->Act->World->Prop}(hI:Inv F w A X h)
  (hv:∀x,(ev st x).1=true->RV w A X (di st x) (a.eval x)) (hok:valid st o.op) (hc:(sem E d o.op (di st) h).c)
  (hK:∀v w' A' X',bC w A w' A'->fH X X'->RV w' A' X' (sem E d o.op (di st) h).v v->Inv F w' A' X' (sem E d o.op (di st) h).h->next (a.put o.dst v) w'):o.wp E.P a w next Q:=by
 obtain⟨dst,op,ty,pos,after,guard⟩:=o;have same:∀v,RV w A X (sem E d op (di st) h).v v->(sem E d op (di st) h).h=h->next (a.put dst v) w:=fun v h1 h2=>hK v w A X (bC.refl w A) (fH.refl X) h1 (by rw [h2];exact hI);simp only at hok hc hK ⊢;by_cases gi:∃c,op=.call c
 ·obtain⟨c,rfl⟩:=gi;exact HU hT hyl hI hv hok hc hK
 cases op<;>simp only [sem,bad]at hc hK same
 case move x=>exact cU (v:=a.eval x) rfl (same _ (hv x hok.1) trivial)
 case assign x=>exact cU (v:=a.eval x) rfl (same _ (hv x hok.1) trivial)
 case pick c x y=>
  cases va:di st c<;>simp only [va,A7,bad]at hc same
  case bool t=>
   have h1:=hv c hok.1;rw [va]at h1;have h2:=G4 (w:=w) (A:=A) (X:=X) (b:=t) (fun ht=>hv x (hok.2.1 (by rw [va,ht]))) (fun hf=>hv y (hok.2.2 (by rw [va,hf])));refine cU (v:=if t then a.eval x else a.eval y) (w':=w) ?_ (same _ h2 trivial);simp only [execOp,h1.gD,asBool,Sem.run_bind,Sem.run_pure,Result.andThen_ok]
 case alloc T=>
  obtain⟨r,w',A',X',h1,h2,h3,h4,h5⟩:=Cs hI hc;exact cU (jv h1) (hK r w' A' X' h2 h3 h5 h4)
 case box T x=>
  obtain⟨r,w',A',X',h1,h2,h3,h4,h5⟩:=G5 hI (hv x hok.1) hc;exact cU (jv h1) (hK r w' A' X' h2 h3 h5 h4)
 case build T parts=>
  obtain⟨r,h1,h2⟩:=Ct (P:=E.P) (w:=w) (A:=A) (X:=X) (ρ:=di st) (ρ':=a.eval) parts (fun p hp=>hv p.2 (ek hok p.2 (by simp only [Op.operands];exact List.mem_map.2 ⟨p,hp,rfl⟩))) hc;refine cU (jv h1) (same r h2 ?_);unfold ny at hc ⊢;split<;>simp_all [bad]
 case buildSlice T n parts=>
  by_cases hown:E.own.contains (d+500000)=true
  ·rw [if_pos hown]at hc hK;obtain⟨r,w',A',X',h1,h2,h3,h4,h5⟩:=Ag (P:=E.P) (ρ:=di st) (ρ':=a.eval) parts hI hc;exact cU (jv h1) (hK r w' A' X' h2 h3 h5 h4)
  rw [if_neg hown]at hc hK;obtain⟨r,w',A',X',h1,h2,h3,h4,h5⟩:=sZ (P:=E.P) (ρ:=di st) (ρ':=a.eval) parts hI (fun p hp=>hv p.2 (ek hok p.2 (by simp only [Op.operands];exact List.mem_map.2 ⟨p,hp,rfl⟩))) hc;exact cU (jv h1) (hK r w' A' X' h2 h3 h5 h4)
 case load T x=>
  obtain⟨r,h1,h2⟩:=oP hI (hv x hok.1) hc;refine cU (jv h1) (same r h2 ?_);unfold l9;split
  ·rfl
  ·split<;>rfl
  ·rfl
 case store T x y=>
  obtain⟨w',h1,h2,h3⟩:=Cn hI (hv x hok.1) (hv y hok.2.1) hc;have fJ:(nq E.P T (di st x) (di st y) h).v=.top:=by
   unfold nq;split
   ·split<;>rfl
   ·rfl
  have:=hK undef w' A X h2 (fH.refl X) (by rw [fJ];exact .pure (.top _)) h3;unfold Oper.wp execOp;simp only [Sem.run_bind,h1,Result.andThen_ok,Sem.run_pure,Oper.upon];exact this
 case nilCheck x=>
  obtain⟨⟨ad,h1⟩,h2⟩:=G3 (hv x hok.1) hc;refine cU (v:=a.eval x) (w':=w) (by simp only [execOp,h1];rfl) (same _ h2 ?_);unfold Co;split<;>rfl
 case binOp op T x y yT=>
  obtain⟨r,h1,h2⟩:=HW (x:=x) (y:=y) (hv x hok.1) (hv y hok.2.1) hc;exact cU (jv h1) (same r h2 trivial)
 case unOp op T x=>
  have h1:=hv x hok.1;unfold sUn at hc;split at hc
  ·rename_i b hx;rw [hx]at h1;simp only [hx,sUn]at same;refine cU (jv (v:=.bool !b) (w':=w) ?_) (same _ (.pure (.bool _)) trivial);rw [h1.gD];rfl
  ·rename_i k n hx;rw [hx]at h1;simp only [hx,sUn]at same;refine cU (jv (v:=.int k (k.wrap (0 - n))) (w':=w) ?_) (same _ (.pure (.int _ _)) trivial);rw [h1.dV];rfl
  ·exact hc.elim
 case convert S D x=>
  have h1:=hv x hok.1;unfold yq at hc;split at hc
  ·rename_i k0 n k1 k hx vr vx;have hS:E.P.underlying S=some (.int k1):=(by unfold wI at vr;split at vr<;>simp_all);have hD:E.P.underlying D=some (.int k):=(by unfold wI at vx;split at vx<;>simp_all);rw [hx]at h1;simp only [hx,vr,vx,yq]at same;refine cU (jv (v:=.int k (k.wrap n)) (w':=w) ?_) (same _ (.pure (.int _ _)) trivial);rw [h1.dV];simp [convert,run_underlying hS,run_underlying hD,Conv.intToInt]
  ·exact hc.elim
 case makeFunc fn first caps=>
  cases fn<;>simp only at hc same
  case func f=>
   cases hf:first.isEmpty with
   | false=>simp [hf]at hc
   | true=>
    simp only [hf,if_true]at same;have h0:first = #[]:=by simpa using hf
    subst h0;refine cU (v:=.func (.func f) #[] (caps.map a.eval)) (w':=w) (by simp [execOp,Instr.makeFunc]) (same _ (.fn f _ _ (by simp) fun i c hi=>?_) trivial);rw [List.getElem?_map]at hi;cases hx:caps.toList[i]? with
    | none=>simp [hx]at hi
    | some x=>
     simp [hx]at hi;subst hi;have hg:(caps.map a.eval).getD i gC=a.eval x:=by have:caps[i]?=some x:=(by simpa using hx);simp [Array.getD_eq_getD_getElem?,this]
     rw [hg];exact hv x (ek hok x (by simp only [Op.operands];simp;exact Array.mem_of_getElem? (by simpa using hx)))
  all_goals exact hc.elim
 case makeSlice T l c=>
  obtain⟨r,w',A',X',h1,h2,h3,h4,h5⟩:=uF hI (hv l hok.1) (hv c hok.2.1) hc;exact cU (jv h1) (hK r w' A' X' h2 h3 h5 h4)
 case slice T x lo hi mx=>
  have Nd:∀(y:Option Operand),(∀z,y=some z->(ev st z).1=true)->∀r,uK (di st) y=some r->qS r (y.map a.eval):=by
   intro y hy r hr;cases y with
   | none=>simp [uK]at hr;subst hr;trivial
   | some z=>
    simp only [uK]at hr;cases hz:di st z<;>simp [hz,asI]at hr;subst hr;have:=hv z (hy z rfl);rw [hz]at this;exact⟨_,this.dV⟩
  have v4:=ek hok;by_cases hown:E.own.contains d=true
  ·rw [if_pos hown]at hc hK;obtain⟨r,X',h1,h2,h3,h4⟩:=HX hI (hv x (v4 x (by simp [Op.operands]))) (Nd lo fun z hz=>v4 z (by subst hz;simp [Op.operands])) (Nd hi fun z hz=>v4 z (by subst hz;simp [Op.operands])) (Nd mx fun z hz=>v4 z (by subst hz;simp [Op.operands])) hc;exact cU (jv h1) (hK r w A X' (bC.refl w A) h2 h4 h3)
  rw [if_neg hown]at hc same;obtain⟨r,h1,h2⟩:=CY hI (hv x (v4 x (by simp [Op.operands]))) (Nd lo fun z hz=>v4 z (by subst hz;simp [Op.operands])) (Nd hi fun z hz=>v4 z (by subst hz;simp [Op.operands])) (Nd mx fun z hz=>v4 z (by subst hz;simp [Op.operands])) hc;exact cU (jv h1) (same r h2 rfl)
 case fieldAddr S x f=>
  obtain⟨r,h1,h2⟩:=uB (hv x hok.1) hc;refine cU (jv h1) (same r h2 ?_);unfold fk;split<;>rfl
 case field S x f=>
  obtain⟨r,h1,h2⟩:=Cq (hv x hok.1) hc;refine cU (jv h1) (same r h2 ?_);unfold nr;split<;>rfl
 case indexAddr T x ix=>
  obtain⟨r,h1,h2⟩:=uC hI (hv x hok.1) (hv ix hok.2.1) hc;refine cU (jv h1) (same r h2 ?_);unfold ef;split
  ·split
   ·rfl
   ·split<;>rfl
   ·split<;>rfl
   ·rfl
   ·rfl
   ·rfl
  ·rfl
 case index T x ix=>
  obtain⟨r,h1,h2⟩:=Cr (hv x hok.1) (hv ix hok.2.1) hc;refine cU (jv h1) (same r h2 ?_);unfold nu;split<;>rfl
 case extract x ix=>
  have h1:=hv x hok.1;cases hx:di st x<;>simp only [hx,mN,bad]at hc same
  case dB vs=>
   rw [hx]at h1;obtain⟨us,hu,hl,hg⟩:=h1.KQ;have v1:ix<us.size:=(by omega);have h2:=hg ix vs[ix] (List.getElem?_eq_getElem hc);have e1:us.getD ix gC=us[ix]:=(by simp [Array.getD_eq_getD_getElem?,Array.getElem?_eq_getElem v1]);have e2:vs.getD ix .top=vs[ix]:=(by simp [List.getD,List.getElem?_eq_getElem hc]);rw [e2]at same;refine cU (jv (v:=us.getD ix gC) (w':=w) ?_) (same _ h2 trivial);rw [hu,e1];simp [Instr.extract,Array.getElem?_eq_getElem v1]
 case call c=>exact absurd ⟨c,rfl⟩ gi
 all_goals exact hc.elim
end
end Go.Sx
end
section
namespace Go.Sx
open Go.RowKit
variable [aO]
def Obj.pQ:Obj->Bool
 | .cells ..=>true
 | _=>false
structure Calm (w w':World):Prop where
 size:w.heap.size<=w'.heap.size
 cells:∀(b:Nat) (arr:Array Value) (ty:TypeId) (fr:Nat × Nat),w.heap[b]?=some (.cells arr ty fr)->w'.heap[b]?=some (.cells arr ty fr)
 os:w'.os=w.os
 tape:w'.tape=w.tape
 output:w'.output=w.output
omit [aO]in
theorem Calm.refl(w:World):Calm w w:=⟨Nat.le_refl _,fun _ _ _ _ h=>h,rfl,rfl,rfl⟩
omit [aO]in
theorem Calm.put{w:World}{l:Nat}{o:Obj}(o':Obj)(h:w.heap[l]?=some o)(hc:Obj.pQ o=false):Calm w (w.putObj l o'):=
 ⟨by simp,fun b arr ty fr hb=>by
  have z4:b≠l:=by rintro rfl;rw [h]at hb;cases hb;simp [Obj.pQ]at hc
  rw [World.putObj_heap_other z4];exact hb,rfl,rfl,rfl⟩
section
variable {F:Fr} {w w':World} {A:Nat->Prop} {X:Refs} {h:Hp}
omit [aO]in
theorem HY{w:World}{a:Addr}{v:Value}(h:w.cell? a=some v):∃arr ty fr,w.heap[a.block]?=some (.cells arr ty fr):=by
 unfold World.cell? at h;cases ho:w.heap[a.block]? with
 | none=>simp [ho]at h
 | some o=>cases o<;>simp_all
omit [aO]in
theorem Calm.cell(hc:Calm w w'){a:Addr}{v:Value}(h:w.cell? a=some v):w'.cell? a=some v:=by obtain⟨arr,ty,fr,hb⟩:=HY h;rw [World.cell?_of_block (w:=w) (by rw [hb];exact hc.cells _ _ _ _ hb)];exact h
omit [aO]in
theorem PV.calm(hc:Calm w w'){x:V}{v:Value}(h:PV w A x v):PV w' A x v:=by
 induction h with
 | top v=>exact .top v
 | int k n=>exact .int k n
 | bool b=>exact .bool b
 | nil=>exact .nil
 | lg=>exact .lg
 | oN=>exact .oN
 | vW l=>exact .vW l
 | emp a=>exact .emp a
 | qT b=>exact .qT b
 | agg cs us hl _ ih=>exact .agg cs us hl ih
 | dB cs us hl _ ih=>exact .dB cs us hl ih
 | fn f cs us hl _ ih=>exact .fn f cs us hl ih
 | xV z a cap=>exact .xV z a cap
 | sl z els b off cap u v6 hb hA hz mK _ ih=>exact .sl z els b off cap u v6 (Nat.lt_of_lt_of_le hb hc.size) hA hz (fun e j row c he hj=>⟨hc.cell (mK e j row c he hj).1,(mK e j row c he hj).2⟩) ih
 | ip z els e0 j0 b off u hb hA hz mK _ ih=>exact .ip z els e0 j0 b off u (Nat.lt_of_lt_of_le hb hc.size) hA hz (fun e j row c he hj=>⟨hc.cell (mK e j row c he hj).1,(mK e j row c he hj).2⟩) ih
omit [aO]in
theorem RV.calm(hc:Calm w w'){x:V}{v:Value}(h:RV w A X x v):RV w' A X x v:=by
 induction h with
 | pure h=>exact .pure (h.calm hc)
 | agg cs us hl _ ih=>exact .agg cs us hl ih
 | dB cs us hl _ ih=>exact .dB cs us hl ih
 | fn f cs us hl _ ih=>exact .fn f cs us hl ih
 | bw s i n a c hN hn hv=>exact .bw s i n a c hN hn hv
 | bG s i n e j a hN hn hv=>exact .bG s i n e j a hN hn hv
 | gY s i n off len cap a c mK hN hn hv=>exact .gY s i n off len cap a c mK hN hn hv
theorem Inv.calm(hI:Inv F w A X h)(hc:Calm w w')(w0:World)(hsz:w0.heap.size=F.w0.heap.size)(z5:w0.os=F.w0.os)(z6:w0.tape=F.w0.tape)(z7:w0.output=F.w0.output)
  (hs:∀b,b<F.w0.heap.size->¬ F.M b->w'.heap[b]?=w0.heap[b]?):Inv {F with w0:=w0} w' A X h:=by
 refine {gl:=fun g v hg=>(hI.gl g v hg).calm hc,oV:=fun b hA=>Nat.lt_of_lt_of_le (hI.oV b hA) hc.size,iE:=fun b v1=>hI.iE b (by simp only at v1;omega),ep:=fun b v1=>hI.ep b (by simp only at v1;omega),os:=(hc.os.trans hI.os).trans z5.symm,tape:=(hc.tape.trans hI.tape).trans z6.symm,output:=(hc.output.trans hI.output).trans z7.symm,size:=by simp only [hsz];exact Nat.le_trans hI.size hc.size,same:=fun b v1 hM=>hs b (by simp only at v1;omega) hM,xle:=hI.xle,nb:=hI.nb,inj:=hI.inj,blk:=?_};intro s i B hB;have ho:=hI.blk s i B hB;refine {hN:=ho.hN,hz:=ho.hz,hlen:=ho.hlen,rows:=ho.rows,mem:=?_};rcases ho.mem with hm|⟨arr,cap,h1,h2,h3,h4,h5,h6,h7,h8⟩
 ·exact .inl hm
 ·refine .inr ⟨arr,cap,hc.cells _ _ _ _ h1,h2,h3,h4,h5,?_,h7,?_⟩
  ·intro e j row c he hj;obtain⟨u,g1,g2,g3,g4⟩:=h6 e j row c he hj;exact⟨u,g1,g2,g3.calm hc,fun cZ=>(g4 cZ).calm hc⟩
  ·intro hf;simp only [hsz];exact h8 hf
theorem Inv.xy(hI:Inv F w A X h){l:Nat}{o:Obj}(o':Obj)(ho:w.heap[l]?=some o)(hc:Obj.pQ o=false)(hl:F.w0.heap.size<=l):Inv F (w.putObj l o') A X h:=
 hI.calm (Calm.put o' ho hc) F.w0 rfl rfl rfl rfl fun b v1 hM=>by rw [World.putObj_heap_other (by omega)];exact hI.same b v1 hM
theorem Inv.KR(hI:Inv F w A X h){l:Nat}{o:Obj}(r:Loop)(ho:w.heap[l]?=some o)(hc:Obj.pQ o=false)(hl:l<F.w0.heap.size):Inv (F.stop l r) (w.putObj l (.loop r)) A X h:=
 hI.calm (Calm.put _ ho hc) (F.w0.putObj l (.loop r)) (by simp) rfl rfl rfl fun b v1 hM=>by
  by_cases e:b=l
  ·subst e;rw [World.putObj_heap_same (Array.getElem?_eq_some_iff.1 ho).1,World.putObj_heap_same hl]
  ·rw [World.putObj_heap_other e,World.putObj_heap_other e];exact hI.same b v1 hM
theorem Inv.RT{l:Nat}{r r':Loop}(hI:Inv (F.stop l r) w A X h){o:Obj}(ho:w.heap[l]?=some o)(hc:Obj.pQ o=false)(hl:F.w0.heap[l]?=some (.loop r')):Inv F (w.putObj l (.loop r')) A X h:=
 hI.calm (Calm.put _ ho hc) F.w0 (by simp [Fr.stop]) rfl rfl rfl fun b v1 hM=>by
  by_cases e:b=l
  ·subst e;rw [World.putObj_heap_same (Array.getElem?_eq_some_iff.1 ho).1,hl]
  ·rw [World.putObj_heap_other e];have:=hI.same b v1 hM;simp only [Fr.stop]at this;rw [World.putObj_heap_other e]at this;exact this
theorem Inv.Nf{l:Nat}{r:Loop}(hI:Inv (F.stop l r) w A X h)(r':Loop){o:Obj}(ho:w.heap[l]?=some o)(hc:Obj.pQ o=false)(hl:l<F.w0.heap.size):Inv (F.stop l r') (w.putObj l (.loop r')) A X h:=
 hI.calm (Calm.put _ ho hc) (F.w0.putObj l (.loop r')) (by simp [Fr.stop]) rfl rfl rfl fun b v1 hM=>by
  simp only [Fr.stop,World.putObj_size]at v1;by_cases e:b=l
  ·subst e;rw [World.putObj_heap_same (Array.getElem?_eq_some_iff.1 ho).1,World.putObj_heap_same hl]
  ·rw [World.putObj_heap_other e,World.putObj_heap_other e];have:=hI.same b (by simpa [Fr.stop]using v1) hM;simp only [Fr.stop]at this;rw [World.putObj_heap_other e]at this;exact this
theorem Inv.hle(hI:Inv F w A X h){h':Hp}(hl:bA h h'):Inv F w A X h':=
 {gl:=hI.gl,oV:=hI.oV,iE:=hI.iE,ep:=hI.ep,os:=hI.os,tape:=hI.tape,output:=hI.output,size:=hI.size,same:=hI.same,xle:=hI.xle,nb:=fun s=>Nat.le_trans (hI.nb s) (hl.1.2 s),blk:=fun s i B hg=>hI.blk s i B (hl.1.1 s i B hg),inj:=fun s i B s' i' B' hg hg'=>hI.inj s i B s' i' B' (hl.1.1 s i B hg) (hl.1.1 s' i' B' hg')}
omit [aO]in
theorem E2(h:Hp)(b:Bool)(s i:Nat):aL (hfl h b) s i=if s=YS then none else aL h s i:=by
 unfold aL hfl;by_cases e:s=YS
 ·subst e;simp
 ·simp [e]
omit [aO]in
theorem uW(h:Hp)(b:Bool)(s:Nat):hnext (hfl h b) s=hnext h s:=by
 unfold hfl;by_cases e:s=YS
 ·subst e;simp [hnext]
 ·unfold hnext;simp [e]
theorem Inv.hfl(hI:Inv F w A X h)(b:Bool):Inv F w A X (Sx.hfl h b):=by
 have hg:∀{s i B},aL (Sx.hfl h b) s i=some B->aL h s i=some B:=by
  intro s i B hg;rw [E2]at hg;split at hg
  ·cases hg
  ·exact hg
 exact {gl:=hI.gl,oV:=hI.oV,iE:=hI.iE,ep:=hI.ep,os:=hI.os,tape:=hI.tape,output:=hI.output,size:=hI.size,same:=hI.same,xle:=hI.xle,nb:=fun s=>by rw [uW];exact hI.nb s,blk:=fun s i B h=>hI.blk s i B (hg h),inj:=fun s i B s' i' B' h h'=>hI.inj s i B s' i' B' (hg h) (hg h')}
theorem Inv.KS(hI:Inv F w A X h){l:Nat}{o:Obj}(ho:w.heap[l]?=some o)(hc:Obj.pQ o=false):¬ jY X h l:=by
 rintro⟨s,i,B,hg,hfz,fE,rfl⟩;rcases(hI.blk s i B hg).mem with hm|⟨arr,cap,g1,_⟩
 ·exact fE hm.1
 ·rw [g1]at ho;cases ho;simp [Obj.pQ]at hc
end
def Mk(n:Nat)(A:Nat->Prop)(w:World)(ds:List Deferred):Prop:=
 ds.Pairwise (·≠·)/\∀d∈ds,∃D,d={target:=.collected D,args:=#[]}/\n<=D/\w.heap[D]?=some (.deferred (some []))/\¬ A D
omit [aO]in
theorem Mk.nil(n:Nat)(A:Nat->Prop)(w:World):Mk n A w []:=⟨.nil,fun d hd=>by cases hd⟩
structure Carry (w:World) (A:Nat->Prop) (X:Refs) (w':World) (A':Nat->Prop) (X':Refs):Prop where
 rv:∀x v,RV w A X x v->RV w' A' X' x v
 dm:∀D,w.heap[D]?=some (.deferred (some []))->¬ A D->w'.heap[D]?=some (.deferred (some []))/\¬ A' D
omit [aO]in
theorem Carry.of{w w':World}{A A':Nat->Prop}{X X':Refs}(hL:bC w A w' A')(hX:fH X X'):Carry w A X w' A' X':=
 ⟨fun _ _ h=>h.mono hL hX,fun D h hA=>by have:=hL.2 D (Array.getElem?_eq_some_iff.1 h).1 hA;exact⟨this.1.trans h,this.2⟩⟩
omit [aO]in
theorem Carry.trans{w w' w'':World}{A A' A'':Nat->Prop}{X X' X'':Refs}(h:Carry w A X w' A' X')(k:Carry w' A' X' w'' A'' X''):Carry w A X w'' A'' X'':=
 ⟨fun x v hv=>k.rv x v (h.rv x v hv),fun D hD hA=>k.dm D (h.dm D hD hA).1 (h.dm D hD hA).2⟩
omit [aO]in
theorem Carry.put{w:World}{A:Nat->Prop}{X:Refs}{l:Nat}{r:Loop}(o':Obj)(h:w.heap[l]?=some (.loop r)):Carry w A X (w.putObj l o') A X:=
 ⟨fun x v hv=>hv.calm (Calm.put o' h rfl),fun D hD hA=>⟨by rw [World.putObj_heap_other (by rintro rfl;rw [h]at hD;cases hD)];exact hD,hA⟩⟩
omit [aO]in
theorem Mk.carry{n:Nat}{w w':World}{A A':Nat->Prop}{X X':Refs}{ds:List Deferred}(h:Mk n A w ds)(hc:Carry w A X w' A' X'):Mk n A' w' ds:=
 ⟨h.1,fun d hd=>by obtain⟨D,e,h1,h2,h3⟩:=h.2 d hd;exact⟨D,e,h1,(hc.dm D h2 h3).1,(hc.dm D h2 h3).2⟩⟩
structure R (F:Fr) (nt:Nat) (st:St) (a:Act) (w:World):Prop where
 ex:∃A X,Inv F w A X st.h/\(∀k,((st.t k).1=true->RV w A X (st.t k).2 (a.tmps.getD k undef))/\((st.t k).1=false->a.tmps.getD k undef=undef))/\Mk F.w0.heap.size A w a.defers
 sz:a.tmps.size=nt
omit [aO]in
theorem KT{a:Act}{d:Option Tmp}{v:Value}{k:Nat}(hd:A8 a.tmps.size d):(a.put d v).tmps.getD k undef=if d=some k then v else a.tmps.getD k undef:=by
 cases d with
 | none=>rfl
 | some d=>
  simp only [A8]at hd;simp only [Act.put,Array.getD_eq_getD_getElem?,Array.getElem?_setIfInBounds];by_cases hk:d=k
  ·subst hk;simp [hd]
  ·simp [hk]
omit [aO]in
theorem asA{a:Act}{d:Option Tmp}{v:Value}:(a.put d v).tmps.size=a.tmps.size:=by cases d<;>simp [Act.put]
omit [aO]in
theorem RU{a:Act}{d:Option Tmp}{v:Value}:(a.put d v).defers=a.defers:=by cases d<;>rfl
omit [aO]in
theorem Bq(t:Nat->Bool × V)(d:Option Nat)(x:Bool × V)(k:Nat):o7 t d x k=if d=some k then x else t k:=by
 cases d with
 | none=>rfl
 | some d=>
  simp only [o7,Option.some.injEq];by_cases hk:k=d
  ·subst hk;simp
  ·rw [if_neg hk,if_neg (fun e=>hk e.symm)]
def jc(rd:Option Nat):Fence:={Fence.wide with round:=rd}
omit [aO]in
theorem mH{rd:Option Nat}{n:Nat}{P:Program}{f:FuncId}{args:Array Value}{w:World}{Q:Ending->World->Prop}:CallsIn (jc rd) n P f args w Q↔Calls P f args w Q:=callsIn_wide (n:=n)
omit [aO]in
theorem Ay{rd:Option Nat}{n m:Nat}{P:Program}{l:Nat}{f:FuncId}{tmps:Array Value}{assign body:Code}{w:World}{Q:Ending->World->Prop}(h:RoundIn Fence.wide m P l f tmps assign body w Q):RoundIn (jc rd) n P l f tmps assign body w Q:=
 ⟨trivial,fun c cs _=>h.2 c cs (room_wide _)⟩
omit [aO]in
theorem XK{rd:Option Nat}{n:Nat}{P:Program}{o:Oper}{a:Act}{w:World}{next:Act->World->Prop}{Q:Exit->Act->World->Prop}(hd:∀c,o.op≠.defer c)(h:o.wp P a w next Q):o.wpIn (jc rd) n P a w next Q:=by
 refine⟨fun _ _=>trivial,?_⟩;rw [Oper.semAt_eq _ _ _ hd];unfold Oper.wp at h;revert h;cases (execOp a.eval o).run P w with
 | ok x w'=>
  cases x with
  | value v=>exact id
  | skip=>exact id
  | defer d=>exact id
  | enter f args=>exact fun h=>⟨(fun h=>by cases h),mH.2 h⟩
  | row row args=>exact fun h=>⟨(fun h=>by cases h),fun c cs _=>by obtain⟨v,w',r,s⟩:=h c cs;exact⟨v,w',r,stepsIn_wide.2 s⟩⟩
  | _=>exact fun h=>h.elim
 | halt x w'=>cases x<;>first|exact id|exact fun h=>h.elim
end Go.Sx
end
section
namespace Go.Sx
open Go.RowKit
variable [aO]
def SpY(P:Program)(K:Fr->Hp->Prop)(l:Nat)(Y:bB):Prop:=
 ∀(F:Fr) (args:List V) (h:Hp),K F h->(Y.go args h).c->∀(w:World) (A:Nat->Prop) (X:Refs) (vals:Array Value),Inv F w A X h->vals.size=args.length->
  (∀(i:Nat) (c:V),args[i]?=some c->RV w A X c (vals.getD i gC))->
  ∃fn tmps assign body,(Instr.yield l vals).run P w=.ok (.round l fn tmps assign body) w/\RoundIn Fence.wide 0 P l fn tmps assign body w fun e w'=>
   ∃v A' X' F',e=.returned v/\K F' (Y.go args h).h/\F'.w0.heap.size=F.w0.heap.size/\Inv F' w' A' X' (Y.go args h).h/\Carry w A X w' A' X'/\RV w' A' X' (Y.go args h).v v
def SpI(P:Program)(K:Fr->Hp->Prop)(l:Nat)(Y:bB):Prop:=
 ∀(g:FuncId) (S:Nat->bB->bB),HZ P g S->∀(F:Fr) (args:List V) (h:Hp),K F h->(h YS).ah=[]->(h YS).fl=false->((S l Y).go args h).c->∀(w:World) (A:Nat->Prop) (X:Refs) (vals:Array Value),Inv F w A X h->vals.size=args.length->
  (∀(i:Nat) (c:V),args[i]?=some c->RV w A X c (vals.getD i gC))->
  Calls P g vals w fun e w'=>
   ∃v A' X' F',e=.returned v/\K F' ((S l Y).go args h).h/\F'.w0.heap.size=F.w0.heap.size/\Inv F' w' A' X' ((S l Y).go args h).h/\Carry w A X w' A' X'/\RV w' A' X' ((S l Y).go args h).v v
structure OW (E:Env) (K:Fr->Hp->Prop) (rd:Option Nat):Prop where
 ys:∀F h h',h' YS=h YS->K F h->K F h'
 sem:∀F d op ρ h,d<E.nt\/d=0->K F h->(sem {E with yl:=none} d op ρ h).c->K F (sem {E with yl:=none} d op ρ h).h
 jQ:∀F k st,K F st.h->(Az k st).1->K F (Az k st).2.h
 rf:E.yl=none->∀F h h',K F h->K F h'
 rd:∀l,rd=some l->∀F h,K F h->¬ F.M l/\∃r,F.w0.heap[l]?=some (.loop r)
 sp:∀l Y,E.yl=some (l,Y)->SpY E.P K l Y/\SpI E.P K l Y
def R2(K:Fr->Hp->Prop)(nt:Nat)(st:St)(a:Act)(w:World):Prop:=∃F,K F st.h/\R F nt st a w
theorem Ng(E:Env)(st:St)(d:Nat)(op:Op)(h:Hp):sem E d op (di st) h=sem {E with yl:=none} d op (di st) h\/
  ∃f args ats,op=.call ⟨.value f,args,ats⟩/\((∃l,di st f=.vW l)\/∃g caps S,di st f=.fn g caps/\E.fn g=some (.iter S)):=by
 cases op with
 | call c=>
  obtain⟨callee,args,ats⟩:=c;cases callee with
  | value f=>
   cases hf:di st f with
   | vW l=>exact .inr ⟨f,args,ats,rfl,.inl ⟨l,hf⟩⟩
   | fn g caps=>
    cases hg:E.fn g with
    | none=>left;simp only [sem,hf,q9,vM,o6,hg]
    | some S=>
     cases S with
     | iter S=>exact .inr ⟨f,args,ats,rfl,.inr ⟨g,caps,S,hf,hg⟩⟩
     | _=>left;simp only [sem,hf,q9,vM,o6,hg]
   | _=>left;simp only [sem,hf,q9,o6]
  | builtin b=>left;cases b<;>rfl
  | invoke r m=>left;rfl
 | makeFunc fn first caps=>left;cases fn<;>rfl
 | _=>left;rfl
section
variable {F:Fr} {w:World} {A:Nat->Prop} {X:Refs} {h:Hp}
omit [aO]in
theorem RV.XL{l:Nat}{u:Value}(h:RV w A X (.vW l) u):u=.func (.yield l) #[] #[]:=by
 cases h with
 | pure h=>cases h;rfl
theorem AA{E:Env}(hT:nZ E){K:Fr->Hp->Prop}{rd:Option Nat}(hK:OW E K rd){n:Nat}{dst:Option Tmp}{f:Operand}{args:Array Operand}{ats:Array TypeId}{ty:TypeId}{pos:String}{after:Array Edge}{guard:Option (Nat × Bool)}{a:Act}{st:St}{d:Nat}
  {next:Act->World->Prop} {Q:Exit->Act->World->Prop} (hF:K F h) (hI:Inv F w A X h)
  (hv:∀x,(ev st x).1=true->RV w A X (di st x) (a.eval x)) (hok:valid st (.call ⟨.value f,args,ats⟩)) (hc:(sem E d (.call ⟨.value f,args,ats⟩) (di st) h).c)
  (hs:(∃l,di st f=.vW l)\/∃g caps S,di st f=.fn g caps/\E.fn g=some (.iter S))
  (hn:∀v w' A' X' F',K F' (sem E d (.call ⟨.value f,args,ats⟩) (di st) h).h->F'.w0.heap.size=F.w0.heap.size->Inv F' w' A' X' (sem E d (.call ⟨.value f,args,ats⟩) (di st) h).h->Carry w A X w' A' X'->RV w' A' X' (sem E d (.call ⟨.value f,args,ats⟩) (di st) h).v v->next (a.put dst v) w') :
  (⟨dst,.call ⟨.value f,args,ats⟩,ty,pos,after,guard⟩:Oper).wpIn (jc rd) n E.P a w next Q:=by
 refine⟨fun _ _=>trivial,?_⟩;rw [Oper.semAt_eq _ _ _ (fun c e=>by cases e)];simp only [valid]at hok;have hf:=hv f hok.1;have v3:=CW hv hok.2;simp only [sem]at hc hn;rcases hs with⟨l,hl⟩|⟨g,caps,S,hg,hS⟩
 ·rw [hl]at hf hc hn;have HV:=hf.XL;simp only [q9,o6]at hc hn;cases hy:E.yl with
  | none=>rw [hy]at hc;exact hc.elim
  | some p=>
   obtain⟨l',Y⟩:=p;rw [hy]at hc hn;simp only at hc hn;by_cases Aa:l=l'
   ·subst Aa;rw [if_pos rfl]at hc hn;have hsz:(args.map a.eval).size=(args.toList.map (di st)).length:=(by simp);have v0:∀(i:Nat) (c:V),(args.toList.map (di st))[i]?=some c->RV w A X c ((args.map a.eval).getD i gC):=by intro i c hi;have v1:i<args.size:=(by have:=(List.getElem?_eq_some_iff.1 hi).1;simpa using this);have e:(args.map a.eval).getD i gC=a.eval args[i]:=(by simp [Array.getD_eq_getD_getElem?,v1]);rw [e];exact v3 i c _ hi (by simp [v1])
    obtain⟨fn,tmps,assign,body,hrun,r7⟩:=(hK.sp _ _ hy).1 F _ h hF hc w A X _ hI hsz v0;have vy:(execOp a.eval ⟨dst,.call ⟨.value f,args,ats⟩,ty,pos,after,guard⟩).run E.P w=.ok (.round l fn tmps assign body) w:=by simp only [execOp,resolve,HV,Deferred.ofValue,Sem.run_bind,Sem.run_pure,Result.andThen_ok,invoke,Array.empty_append,Array.append_empty];first|exact hrun|(simp only [hrun,Result.andThen_ok,Sem.run_pure])
    rw [vy,Oper.uponIn_round];refine⟨(fun h=>by cases h),Ay (r7.mono ?_)⟩;rintro e w' ⟨v,A',X',F',rfl,h1,h2,h3,h4,h5⟩;exact hn v w' A' X' F' h1 h2 h3 h4 h5
   ·rw [if_neg Aa]at hc;exact hc.elim
 ·rw [hg]at hf hc hn;obtain⟨us,HV,hl,v6⟩:=hf.nN;simp only [q9,vM,o6,hS]at hc hn;cases hy:E.yl with
  | none=>rw [hy]at hc;exact hc.elim
  | some p=>
   obtain⟨l',Y⟩:=p;rw [hy]at hc hn;simp only at hc hn;obtain⟨⟨z8,RW⟩,z9⟩:=hc;have hsz:((#[]:Array Value)++args.map a.eval++us).size=(args.toList.map (di st)++caps).length:=(by simp [hl]);have v0:∀(i:Nat) (c:V),(args.toList.map (di st)++caps)[i]?=some c->RV w A X c (((#[]:Array Value)++args.map a.eval++us).getD i gC):=by
    intro i c hi;rw [List.getElem?_append]at hi;split at hi
    ·rename_i v1;have v7:i<args.size:=(by simpa using v1);have e:((#[]:Array Value)++args.map a.eval++us).getD i gC=a.eval args[i]:=by simp [Array.getD_eq_getD_getElem?,Array.getElem?_append,v7]
     rw [e];exact v3 i c _ hi (by simp [v7])
    ·rename_i vd;have am3:args.size<=i:=(by simpa using vd);have e:((#[]:Array Value)++args.map a.eval++us).getD i gC=us.getD (i - args.size) gC:=by simp only [Array.getD_eq_getD_getElem?,Array.empty_append];rw [Array.getElem?_append,if_neg (by simp;omega)];simp
     rw [e];exact v6 (i - args.size) c (by simpa using hi)
   have v8:=hT g _ hS;have vy:(execOp a.eval ⟨dst,.call ⟨.value f,args,ats⟩,ty,pos,after,guard⟩).run E.P w=.ok (.enter g ((#[]:Array Value)++args.map a.eval++us)) w:=by simp only [execOp,resolve,HV,Deferred.ofValue,Sem.run_bind,Sem.run_pure,Result.andThen_ok,invoke,v8.call]
   rw [vy,Oper.uponIn_enter];refine⟨(fun h=>by cases h),mH.2 (((hK.sp _ _ hy).2 g S (v8.iter S rfl) F _ h hF z8 RW z9 w A X _ hI hsz v0).mono ?_)⟩;rintro e w' ⟨v,A',X',F',rfl,h1,h2,h3,h4,h5⟩;exact hn v w' A' X' F' h1 h2 h3 h4 h5
theorem aiD{E:Env}(hT:nZ E){K:Fr->Hp->Prop}{rd:Option Nat}(ob:OW E K rd){n:Nat}{ops:List Oper}{o:Oper}{a:Act}{st:St}{w:World}(hR:R2 K E.nt st a w)(hc:(step E ops o st).1){next:Act->World->Prop}{Q:Exit->Act->World->Prop}
  (hK:∀a' w',R2 K E.nt (step E ops o st).2 a' w'->next a' w') :
  if Region.wanted o (yielded ops.toArray a.tmps)then o.wpIn (jc rd) n E.P a w next Q else next (a.put o.dst undef) w:=by
 obtain⟨F,hF,⟨A,X,hI,ht,vX⟩,hsz⟩:=hR;have hv:∀x,(ev st x).1=true->RV w A X (di st x) (a.eval x):=by
  intro x hx;cases x with
  | tmp k=>exact(ht k).1 hx
  | const v=>exact .pure (sX w A v)
  | global g=>
   show RV w A X ((aO.G g).getD .top) (.pointer (some ⟨g,0,none⟩));cases hG:aO.G g with
   | none=>exact .pure (.top _)
   | some v=>exact .pure (hI.gl g v hG)
  | func f=>exact .pure (.fn f [] #[] rfl (by simp))
 have core:∀(c:Prop) (v:V) (h':Hp) (g:Bool),sem E (o.dst.getD 0) o.op (di st) st.h=⟨c,v,h'⟩->A8 E.nt o.dst->(g=true->valid st o.op/\c)->(∀a' w',R2 K E.nt {t:=o7 st.t o.dst (g,v),h:=nD g h' st.h} a' w'->next a' w')->
   (g=true->o.wpIn (jc rd) n E.P a w next Q)/\(g=false->next (a.put o.dst undef) w):=by
  intro c v h' g aA2 hd za hK;constructor
  ·intro hg;subst hg;obtain⟨hok,Hv⟩:=za rfl;have fin:∀v' w' A' X' F',K F' h'->F'.w0.heap.size=F.w0.heap.size->Inv F' w' A' X' h'->Carry w A X w' A' X'->RV w' A' X' v v'->next (a.put o.dst v') w':=by
    intro v' w' A' X' F' h1 h2 h3 h4 h5;refine hK _ _ ⟨F',h1,⟨A',X',h3,fun k=>?_,?_⟩,by rw [asA];exact hsz⟩
    ·simp only [Bq];rw [KT (by rw [hsz];exact hd)];by_cases hk:o.dst=some k
     ·simp only [hk,if_true];exact⟨fun _=>h5,fun hh=>by cases hh⟩
     ·simp only [hk,if_false];exact⟨fun hh=>h4.rv _ _ ((ht k).1 hh),(ht k).2⟩
    ·rw [RU,h2];exact vX.carry h4
   rcases Ng E st (o.dst.getD 0) o.op st.h with he|⟨f,args,ats,ho,hs⟩
   ·have abm:=he.symm.trans aA2;have vb:(sem {E with yl:=none} (o.dst.getD 0) o.op (di st) st.h).c:=(by rw [abm];exact Hv);refine XK (fun c e=>by rw [e]at vb;exact vb.elim) (RR (E:={E with yl:=none}) hT rfl hI hv hok vb fun v' w' A' X' hL hX Wq fB=>?_);have z0:=ob.sem F (o.dst.getD 0) o.op (di st) st.h (by
     cases ho:o.dst with
     | none=>exact .inr rfl
     | some d=>rw [ho]at hd;exact .inl hd) hF vb
    rw [abm]at Wq fB z0;exact fin v' w' A' X' F z0 rfl fB (.of hL hX) Wq
   ·obtain⟨dst,op,ty,pos,after,guard⟩:=o;simp only at ho aA2 hok fin hd;subst ho;refine AA hT ob hF hI hv hok (by rw [aA2];exact Hv) hs fun v' w' A' X' F' h1 h2 h3 h4 h5=>?_;rw [aA2]at h1 h3 h5;exact fin v' w' A' X' F' h1 h2 h3 h4 h5
  ·intro hg;subst hg;refine hK _ _ ⟨F,hF,⟨A,X,hI,fun k=>?_,by rw [RU];exact vX⟩,by rw [asA];exact hsz⟩;simp only [Bq];rw [KT (by rw [hsz];exact hd)];by_cases hk:o.dst=some k
   ·simp only [hk,if_true];exact⟨fun hh=>(by cases hh),fun _=>trivial⟩
   ·simp only [hk,if_false];exact ht k
 unfold step at hc hK;cases aA2:sem E (o.dst.getD 0) o.op (di st) st.h with
 | mk c v h'=>
 rw [aA2]at hc hK;cases v9:o.guard with
 | none=>
  simp only [v9,fI]at hc hK;have h1:=core c v h' true aA2 hc.2.1 (fun _=>hc.2.2 trivial) hK;rw [if_pos (by simp [Region.wanted,v9])];exact h1.1 rfl
 | some jw=>
  obtain⟨j,want⟩:=jw;simp only [v9,fI]at hc hK;cases hd:(ops[j]?).bind (·.dst)with
  | none=>simp [hd]at hc
  | some dj=>
   simp only [hd]at hc hK;cases z1:st.t dj with
   | mk cb xb=>
   simp only [z1]at hc hK;rcases EV:CZ cb xb want with⟨gc,g⟩
   rw [EV]at hc hK;have h1:=core c v h' g aA2 hc.2.1 hc.2.2 hK;have vP:=ht dj;rw [z1]at vP;have hd':((ops.toArray)[j]?).bind (·.dst)=some dj:=(by simpa using hd);have hw:Region.wanted o (yielded ops.toArray a.tmps)=g:=by
    cases cb with
    | false=>
     have hg:g=false:=by have:=congrArg (fun p:Prop × Bool=>p.2) EV;exact this.symm
     have hy:yielded ops.toArray a.tmps j=none:=by
      have hu:=vP.2 rfl;rw [Array.getD_eq_getD_getElem?]at hu;unfold yielded;rw [hd'];simp only [Option.bind_some];cases hg:a.tmps[dj]? with
      | none=>rfl
      | some x=>rw [hg]at hu;simp only [Option.getD_some]at hu;subst hu;rfl
     simp only [Region.wanted,v9,hy,hg];simp
    | true=>
     cases xb with
     | bool b=>
      have hg:g=(b == want):=by have:=congrArg (fun p:Prop × Bool=>p.2) EV;exact this.symm
      have hy:yielded ops.toArray a.tmps j=some b:=by
       have hb:=(vP.1 rfl).gD;have v1:dj<a.tmps.size:=by
        rcases Nat.lt_or_ge dj a.tmps.size with hh|hh
        ·exact hh
        ·simp [Array.getD_eq_getD_getElem?,Array.getElem?_eq_none hh,undef]at hb
       have hg:a.tmps[dj]?=some (.bool b):=by rw [Array.getD_eq_getD_getElem?,Array.getElem?_eq_getElem v1,Option.getD_some]at hb;rw [Array.getElem?_eq_getElem v1,hb]
       unfold yielded;rw [hd'];simp only [Option.bind_some];rw [hg]
      simp only [Region.wanted,v9,hy,hg];simp
     | _=>exact absurd hc.1 (by have:=congrArg (fun p:Prop × Bool=>p.1) EV;rw [<-this];exact id)
   rw [hw];cases hg:g with
   | true=>simp only [if_true];exact h1.1 hg
   | false=>simp only [Bool.false_eq_true,if_false];exact h1.2 hg
theorem runK{E:Env}(hT:nZ E){K:Fr->Hp->Prop}{rd:Option Nat}(ob:OW E K rd){n:Nat}{ops:List Oper}{Q:Exit->Act->World->Prop}:∀(l:List Oper) (st:St) (a:Act) (w:World),R2 K E.nt st a w->(mP E ops l st).1->
  (∀a' w',R2 K E.nt (mP E ops l st).2 a' w'->Q .normal a' w')->wpListIn (jc rd) n E.P ops.toArray Q l a w
 | [],st,a,w,hR,_,hQ=>hQ a w hR
 | o::l,st,a,w,hR,hc,hQ=>by
  unfold wpListIn;have hs:∃c st',step E ops o st=(c,st'):=⟨_,_,rfl⟩
  obtain⟨c,st',hs⟩:=hs;have hr:∃c H6,mP E ops l st'=(c,H6):=⟨_,_,rfl⟩
  obtain⟨c',H6,hr⟩:=hr;simp only [mP,hs,hr]at hc hQ;have:=aiD hT ob (n:=n) (next:=wpListIn (jc rd) n E.P ops.toArray Q l) (Q:=Q) hR (by rw [hs];exact hc.1) fun a' w' sO=>(by rw [hs]at sO;exact runK hT ob l st' a' w' sO (by rw [hr];exact hc.2) (by rw [hr];exact hQ))
  split at this
  ·rename_i hw;rw [if_pos hw];exact this
  ·rename_i hw;rw [if_neg hw];exact⟨fun _ _=>trivial,this⟩
end
end Go.Sx
end
end
