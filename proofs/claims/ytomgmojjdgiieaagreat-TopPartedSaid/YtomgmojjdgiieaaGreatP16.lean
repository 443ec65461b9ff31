/- Regions whose order is left open: where the operations commute or an edge orders them, the text's order stands for all. No conditions. -/
import Derived.Test.YtomgmojjdgiieaaGreatP15
set_option linter.unusedSimpArgs false
set_option linter.unusedVariables false
set_option linter.unusedSectionVars false
namespace Go.Sx
open Go.RowKit
variable [Gls]
def clsE (E : Env) (o : Oper) : Nat :=
  match o.op with
  | .move _ | .assign _ | .pick .. | .build .. | .nilCheck _ | .binOp .. | .unOp .. | .convert .. | .makeFunc .. | .fieldAddr .. | .field .. | .index .. | .extract .. => 0
  | .load .. | .indexAddr .. => 1
  | .slice .. => if E.own.contains (o.dst.getD 0) then 2 else 1
  | .buildSlice .. => if E.own.contains (o.dst.getD 0) then 2 else 0
  | .call c => match c.callee with
    | .builtin .len => 0
    | .builtin .max => 0
    | .builtin .min => 0
    | .value (.func f) => match E.fn f with | some (.pure _) => if (lkf E.cfz (o.dst.getD 0)).isEmpty then 1 else 2 | _ => 2
    | _ => 2
  | _ => 2
def looks (ops : List Oper) (o : Oper) : List Nat :=
  (o.op.operands.toList.filterMap fun | .tmp t => some t | _ => none) ++
  (match o.guard with
   | some (g, _) => ((ops[g]?).bind (·.dst)).toList
   | none => [])
def apartL (ops : List Oper) (x y : Oper) : Bool :=
  (match x.dst with
   | some d => !(looks ops y).contains d && y.dst != some d
   | none => true) &&
  (match y.dst with
   | some d => !(looks ops x).contains d
   | none => true)
def commH (a b : Nat) : Bool := a == 0 || b == 0 || (a == 1 && b == 1)
def kls (E : Env) (fr : List Nat) (i : Nat) (o : Oper) : Nat := if fr.contains i && !fr.contains (i + 1000) then 0 else clsE E o
def keeper (o : Oper) : Bool := match o.op with
  | .alloc _ | .box .. | .store .. | .makeSlice .. | .buildSlice .. => true
  | .call c => match c.callee with
    | .builtin .append => true
    | _ => false
  | _ => false
def newOp : Op → Bool
  | .alloc _ | .box .. | .makeSlice .. => true
  | _ => false
def newB (fr : List Nat) (i : Nat) (o : Oper) : Bool := newOp o.op || fr.contains (i + 3000)
def twoNew (fr : List Nat) (i : Nat) (x : Oper) (j : Nat) (y : Oper) : Bool := match x.dst, y.dst with | some a, some b => newB fr i x && newB fr j y && a != b | _, _ => false
omit [Gls] in
theorem twoNew_spec {fr : List Nat} {i j : Nat} {x y : Oper} (h : twoNew fr i x j y = true) : ∃ a b, newB fr i x = true ∧ newB fr j y = true ∧ x.dst = some a ∧ y.dst = some b ∧ a ≠ b := by
  unfold twoNew at h
  split at h
  · rename_i a b h3 h4
    simp only [Bool.and_eq_true, bne_iff_ne, ne_eq] at h
    exact ⟨a, b, h.1.1, h.1.2, h3, h4, h.2⟩
  · cases h
def fromReg (ops : List Oper) (y : Oper) : Bool := pusher y && ops.any fun q => pusher q && q.dst == y.dst
def commE (E : Env) (ops : List Oper) (fr : List Nat) (i : Nat) (x : Oper) (j : Nat) (y : Oper) : Bool := apartL ops x y && (commH (kls E fr i x) (kls E fr j y) || twoNew fr i x j y || (fr.contains (i + 1000) && keeper y) || (fr.contains (j + 1000) && keeper x) || (fr.contains (i + 2000) && fromReg ops y) || (fr.contains (j + 2000) && fromReg ops x))
def edged (y : Oper) (i : Nat) : Bool := y.after.any fun e => Region.binds .any e && e.on == i
def edgedBy (ops : List Oper) (i j : Nat) : Bool := match ops[j]? with | some y => edged y i | none => false
def commAt (E : Env) (ops : List Oper) (fr : List Nat) (i j : Nat) : Bool := match ops[i]?, ops[j]? with | some x, some y => commE E ops fr i x j y | _, _ => true
def depsOf (ops : List Oper) (j : Nat) : List Nat := match ops[j]? with | some y => (y.after.toList.filter fun e => Region.binds .any e).map (·.on) | none => []
def anc (ops : List Oper) : Nat → List Nat → List Nat
  | 0, l => l
  | f + 1, l => l ++ anc ops f (l.flatMap (depsOf ops)).eraseDups
def pathTo (ops : List Oper) (i j : Nat) : Bool := (anc ops 6 (depsOf ops j)).contains i
omit [Gls] in
theorem anc_closed {ops : List Oper} {C : Nat → Prop} (hC : ∀ a, C a → ∀ d ∈ depsOf ops a, C d) : ∀ (f : Nat) (l : List Nat), (∀ a ∈ l, C a) → ∀ a ∈ anc ops f l, C a
  | 0, l, h, a, ha => h a ha
  | f + 1, l, h, a, ha => by
    simp only [anc, List.mem_append] at ha
    rcases ha with ha | ha
    · exact h a ha
    · refine anc_closed hC f _ (fun b hb => ?_) a ha
      obtain ⟨c, hc, hd⟩ := List.mem_flatMap.1 (List.mem_eraseDups.1 hb)
      exact hC c (h c hc) b hd
def openPairs (E : Env) (ops : List Oper) (fr : List Nat) : List (Nat × Nat) :=
  (List.range ops.length).flatMap fun j => (List.range j).filterMap fun i => if edgedBy ops i j || edgedBy ops j i || (commAt E ops fr i j && commAt E ops fr j i) || pathTo ops i j || pathTo ops j i then none else some (i, j)
def okT (E : Env) (ops : List Oper) (fr : List Nat) (N : List (Nat × Nat)) (τ : List Nat) : Bool :=
  decide (τ.Pairwise fun a b => τ.idxOf a < τ.idxOf b) && (τ.all fun i => decide (i < ops.length)) && ((List.range ops.length).all fun i => τ.contains i) &&
  (List.range ops.length).all fun j => (match ops[j]? with | some y => y.after.all fun e => !Region.binds .any e || (decide (e.on < ops.length) && decide (τ.idxOf e.on < τ.idxOf j)) | none => true) &&
    (List.range ops.length).all fun i => !decide (τ.idxOf i < τ.idxOf j) || edgedBy ops i j || commAt E ops fr i j || N.contains (i, j) || N.contains (j, i) || pathTo ops i j
def cov : List (Nat × Nat) → List (List Nat) → Bool
  | [], cs => !cs.isEmpty
  | (i, j) :: N, cs => cov N (cs.filter fun τ => decide (τ.idxOf i < τ.idxOf j)) && cov N (cs.filter fun τ => decide (τ.idxOf j < τ.idxOf i))
def okM (E : Env) (ops : List Oper) (fr : List Nat) (cs : List (List Nat)) : Bool :=
  E.P.follows .mixedOrders && (cs.all fun τ => decide (τ.length ≤ ops.length) && okT E ops fr (openPairs E ops fr) τ) && cov (openPairs E ops fr) cs
omit [Gls] in
theorem map_ev2 {ρ ρ' : Operand → V} {l : List Operand} (h : ∀ x ∈ l, ρ x = ρ' x) : l.map ρ = l.map ρ' := List.map_congr_left h
omit [Gls] in
theorem map_parts {ρ ρ' : Operand → V} {l : List (Nat × Operand)} (h : ∀ x ∈ l.map (·.2), ρ x = ρ' x) : (l.map fun p => (p.1, ρ p.2)) = (l.map fun p => (p.1, ρ' p.2)) :=
  List.map_congr_left fun p hp => by rw [h p.2 (List.mem_map.2 ⟨p, hp, rfl⟩)]
omit [Gls] in
theorem optI_congr {ρ ρ' : Operand → V} {x : Option Operand} (h : ∀ y ∈ x.toList, ρ y = ρ' y) : optI ρ x = optI ρ' x := by
  cases x with
  | none => rfl
  | some y => simp only [optI]; rw [h y (by simp)]
omit [Gls] in
theorem sem_congr (E : Env) (d : Nat) (op : Op) {ρ ρ' : Operand → V} (h : Hp) (hx : ∀ x ∈ op.operands.toList, ρ x = ρ' x) : sem E d op ρ h = sem E d op ρ' h := by
  cases op
  case call c =>
    simp only [Op.operands, Call.operands] at hx
    have ha : c.args.toList.map ρ = c.args.toList.map ρ' := map_ev2 fun x hm => hx x (by simp; right; simpa using hm)
    cases hc : c.callee with
    | value f =>
      have hf : ρ f = ρ' f := hx f (by simp [hc])
      simp only [sem, hc, ha, hf]
    | invoke r m => simp only [sem, hc]
    | builtin b =>
      cases b <;> simp only [sem, hc, ha]
      case len =>
        cases hl : c.args.toList with
        | nil => rfl
        | cons a r => cases r with
          | nil => rw [hl] at ha; simp only [List.map_cons, List.map_nil, List.cons.injEq] at ha; cases c.argTypes.toList with
            | nil => rfl
            | cons t r => cases r with
              | nil => simp only [ha.1]
              | cons _ _ => rfl
          | cons _ _ => rfl
      case cap =>
        cases hl : c.args.toList with
        | nil => rfl
        | cons a r => cases r with
          | nil => rw [hl] at ha; simp only [List.map_cons, List.map_nil, List.cons.injEq] at ha; cases c.argTypes.toList with
            | nil => rfl
            | cons t r => cases r with
              | nil => simp only [ha.1]
              | cons _ _ => rfl
          | cons _ _ => rfl
      case clear =>
        cases hl : c.args.toList with
        | nil => rfl
        | cons a r => cases r with
          | nil => rw [hl] at ha; simp only [List.map_cons, List.map_nil, List.cons.injEq] at ha; cases c.argTypes.toList with
            | nil => rfl
            | cons t r => cases r with
              | nil => simp only [ha.1]
              | cons _ _ => rfl
          | cons _ _ => rfl
      case copy =>
        cases hl : c.args.toList with
        | nil => rfl
        | cons a r => cases r with
          | nil => rfl
          | cons b r => cases r with
            | nil =>
              rw [hl] at ha
              simp only [List.map_cons, List.map_nil, List.cons.injEq] at ha
              cases c.argTypes.toList with
              | nil => rfl
              | cons t r => cases r with
                | nil => rfl
                | cons t2 r => cases r with
                  | nil => simp only [ha.1, ha.2.1]
                  | cons _ _ => rfl
            | cons _ _ => rfl
      case append =>
        cases hl : c.args.toList with
        | nil => rfl
        | cons a r => cases r with
          | nil => rfl
          | cons b r => cases r with
            | nil =>
              rw [hl] at ha
              simp only [List.map_cons, List.map_nil, List.cons.injEq] at ha
              cases c.argTypes.toList with
              | nil => rfl
              | cons t r => cases r with
                | nil => rfl
                | cons t2 r => cases r with
                  | nil => simp only [ha.1, ha.2.1]
                  | cons _ _ => rfl
            | cons _ _ => rfl
  case build T parts =>
    simp only [sem]; rw [map_parts (ρ := ρ) (ρ' := ρ') fun x hm => hx x (by simpa [Op.operands] using hm)]
  case buildSlice T n parts =>
    simp only [sem]; rw [map_parts (ρ := ρ) (ρ' := ρ') fun x hm => hx x (by simpa [Op.operands] using hm)]
  case makeFunc f first caps =>
    cases f <;> simp only [sem]
    rw [map_ev2 (ρ := ρ) (ρ' := ρ') fun x hm => hx x (by simp [Op.operands]; right; simpa using hm)]
  case slice T x lo hi mx =>
    simp only [sem]
    rw [hx x (by simp [Op.operands]), optI_congr (ρ := ρ) (ρ' := ρ') (x := lo) (fun y hy => hx y (by simp [Op.operands]; right; left; simpa using hy)),
      optI_congr (ρ := ρ) (ρ' := ρ') (x := hi) (fun y hy => hx y (by simp [Op.operands]; right; right; left; simpa using hy)),
      optI_congr (ρ := ρ) (ρ' := ρ') (x := mx) (fun y hy => hx y (by simp [Op.operands]; right; right; right; simpa using hy))]
  case makeMap T r =>
    cases r with
    | none => rfl
    | some x => simp only [sem, Option.map_some]; rw [hx x (by simp [Op.operands])]
  all_goals first
    | rfl
    | (simp only [Op.operands, List.mem_cons, List.not_mem_nil, or_false, forall_eq_or_imp, forall_eq] at hx
       simp only [sem]
       first | (rw [hx]; done) | (simp only [hx]; done) | rw [hx.1, hx.2] | rw [hx.1, hx.2.1, hx.2.2])
omit [Gls] in
theorem sem_h (E : Env) (o : Oper) (ρ : Operand → V) (hρ : ∀ f, ρ (.func f) = .fn f []) (h : Hp) (hc : clsE E o ≤ 1) : (sem E (o.dst.getD 0) o.op ρ h).h = h := by
  obtain ⟨dst, op, ty, pos, aft, gd⟩ := o
  cases op <;> simp only [clsE] at hc <;> (try omega)
  case buildSlice T n parts =>
    split at hc
    · omega
    · rename_i ho
      simp only [sem]
      have ho' : E.own.contains (dst.getD 0) = false := by simpa using ho
      rw [ho']
      by_cases he : E.own.contains (dst.getD 0 + 500000) = true
      · rw [if_pos he]; exact sBuildE_h _ _ _ _ _
      rw [if_neg he]
      unfold sBuildSlice
      split <;> rfl
  case call c =>
    simp only [sem]
    cases hcc : c.callee with
    | value f =>
      rw [hcc] at hc
      cases f with
      | func f =>
        simp only at hc
        simp only [hρ, sCall, callF]
        split at hc
        · rename_i S hS
          split at hc
          · rename_i he
            have : lkf E.cfz (dst.getD 0) = [] := by simpa using he
            simp only [hS, preZ, this, frzHs]
          · omega
        · omega
      | _ => simp at hc
    | invoke r m => rfl
    | builtin b =>
      rw [hcc] at hc
      cases b <;> simp only at hc ⊢ <;> (try omega)
      case len => split <;> (try rfl); unfold sLen; split <;> rfl
      case max => unfold sMax; split <;> rfl
      case min => unfold sMax; split <;> rfl
  all_goals simp only [sem]
  case makeFunc f first caps => cases f <;> simp only <;> (try rfl); split <;> rfl
  case pick => unfold sPick; split <;> rfl
  case build => unfold sBuild; split <;> rfl
  case nilCheck => unfold sNil; split <;> rfl
  case unOp => unfold sUn; split <;> rfl
  case convert => unfold sConv; split <;> rfl
  case fieldAddr => unfold sFieldAddr; split <;> rfl
  case field => unfold sField; split <;> rfl
  case index => unfold sIndex; split <;> rfl
  case extract => unfold sExtract; split <;> rfl
  case load => unfold sLoad; split <;> (try rfl); split <;> rfl
  case slice =>
    split at hc
    · omega
    · rename_i ho; rw [if_neg ho]
  case indexAddr => unfold sIndexAddr; split <;> (try rfl); split <;> (try rfl) <;> split <;> rfl
omit [Gls] in
theorem sem_0 (E : Env) (o : Oper) (ρ : Operand → V) (h h' : Hp) (hc : clsE E o = 0) : sem E (o.dst.getD 0) o.op ρ h' = { sem E (o.dst.getD 0) o.op ρ h with h := h' } := by
  obtain ⟨dst, op, ty, pos, aft, gd⟩ := o
  cases op <;> simp only [clsE] at hc <;> (try omega)
  case slice => split at hc <;> omega
  case buildSlice T n parts =>
    split at hc
    · omega
    · rename_i ho
      simp only [sem]
      have ho' : E.own.contains (dst.getD 0) = false := by simpa using ho
      rw [ho']
      by_cases he : E.own.contains (dst.getD 0 + 500000) = true
      · rw [if_pos he, if_pos he]; exact sBuildE_free _ _ _ _ _ _
      rw [if_neg he, if_neg he]
      unfold sBuildSlice
      split <;> rfl
  case call c =>
    simp only [sem]
    cases hcc : c.callee with
    | value f =>
      rw [hcc] at hc
      cases f with
      | func f => simp only at hc; split at hc <;> (try split at hc) <;> omega
      | _ => simp at hc
    | invoke r m => rfl
    | builtin b =>
      rw [hcc] at hc
      cases b <;> simp only at hc ⊢ <;> (try omega)
      case len => split <;> (try rfl); unfold sLen; split <;> rfl
      case max => unfold sMax; split <;> rfl
      case min => unfold sMax; split <;> rfl
  all_goals simp only [sem]
  case makeFunc f first caps => cases f <;> simp only <;> (try rfl); split <;> rfl
  case pick => unfold sPick; split <;> rfl
  case build => unfold sBuild; split <;> rfl
  case nilCheck => unfold sNil; split <;> rfl
  case unOp => unfold sUn; split <;> rfl
  case convert => unfold sConv; split <;> rfl
  case fieldAddr => unfold sFieldAddr; split <;> rfl
  case field => unfold sField; split <;> rfl
  case index => unfold sIndex; split <;> rfl
  case extract => unfold sExtract; split <;> rfl
theorem ev2_func (st : St) (f : Nat) : ev2 st (.func f) = .fn f [] := rfl
theorem ev_agree {ops : List Oper} {o : Oper} {st st' : St} (h : ∀ k ∈ looks ops o, st.t k = st'.t k) (x : Operand) (hx : x ∈ o.op.operands.toList) : ev st x = ev st' x := by
  cases x with
  | tmp t => exact h t (List.mem_append_left _ (List.mem_filterMap.2 ⟨.tmp t, hx, rfl⟩))
  | _ => rfl
theorem allv_congr {st st' : St} : ∀ {l : List Operand}, (∀ x ∈ l, ev st x = ev st' x) → allv st l = allv st' l
  | [], _ => rfl
  | x :: l, h => by simp only [allv]; rw [h x (by simp), allv_congr fun y hy => h y (by simp [hy])]
theorem valid_congr {st st' : St} (op : Op) (h : ∀ x ∈ op.operands.toList, ev st x = ev st' x) : valid st op = valid st' op := by
  cases op
  case pick c a b =>
    simp only [Op.operands, List.mem_cons, List.not_mem_nil, or_false, forall_eq_or_imp, forall_eq] at h
    simp only [valid, ev2]
    rw [h.1, h.2.1, h.2.2]
  case call c =>
    simp only [Op.operands, Call.operands] at h
    simp only [valid]
    refine allv_congr fun x hx => h x ?_
    cases hc : c.callee <;> simp only [hc] at hx ⊢ <;> (first | (simpa using hx) | (simp; right; simpa using hx))
  all_goals exact allv_congr h
omit [Gls] in
theorem guardV_congr {ops : List Oper} {o : Oper} {st st' : St} (h : ∀ k ∈ looks ops o, st.t k = st'.t k) : guardV ops st o.guard = guardV ops st' o.guard := by
  cases hg : o.guard with
  | none => rfl
  | some p =>
    obtain ⟨j, want⟩ := p
    simp only [guardV]
    cases hd : (ops[j]?).bind (·.dst) with
    | none => rfl
    | some d => simp only [show st.t d = st'.t d from h d (List.mem_append_right _ (by simp [hg, hd]))]
def stepV (E : Env) (ops : List Oper) (o : Oper) (st : St) : Prop × Bool × V :=
  let s := sem E (o.dst.getD 0) o.op (ev2 st) st.h
  ((guardV ops st o.guard).1 ∧ dstOk E.nt o.dst ∧ ((guardV ops st o.guard).2 = true → valid st o.op ∧ s.c), (guardV ops st o.guard).2, s.v)
theorem step_eq (E : Env) (ops : List Oper) (o : Oper) (st : St) : step E ops o st = ((stepV E ops o st).1, { t := upd st.t o.dst (stepV E ops o st).2, h := hite (guardV ops st o.guard).2 (sem E (o.dst.getD 0) o.op (ev2 st) st.h).h st.h }) := rfl
theorem sem_agree {E : Env} {ops : List Oper} {o : Oper} {st st' : St} (h : ∀ k ∈ looks ops o, st.t k = st'.t k) (hp : Hp) : sem E (o.dst.getD 0) o.op (ev2 st) hp = sem E (o.dst.getD 0) o.op (ev2 st') hp :=
  sem_congr E _ _ hp fun x hx => by simp only [ev2]; rw [ev_agree h x hx]
theorem stepV_agree {E : Env} {ops : List Oper} {o : Oper} {st st' : St} (h : ∀ k ∈ looks ops o, st.t k = st'.t k) (hh : st.h = st'.h ∨ clsE E o = 0) : stepV E ops o st = stepV E ops o st' := by
  unfold stepV
  simp only
  rw [guardV_congr h, valid_congr o.op (fun x hx => ev_agree h x hx), sem_agree h]
  rcases hh with hh | hh
  · rw [hh]
  · rw [sem_0 E o (ev2 st') st'.h st.h hh]
omit [Gls] in
theorem upd_comm (t : Nat → Bool × V) {x y : Option Nat} (u v : Bool × V) (h : ∀ d, x = some d → y ≠ some d) : upd (upd t x u) y v = upd (upd t y v) x u := by
  funext k
  cases x with
  | none => rfl
  | some d =>
    cases y with
    | none => rfl
    | some e =>
      have hne : d ≠ e := fun he => h d rfl (he ▸ rfl)
      simp only [upd]
      by_cases h1 : k = e
      · subst h1; simp [Ne.symm hne]
      · simp [h1]
omit [Gls] in
theorem upd_agree {t : Nat → Bool × V} {d : Option Nat} {x : Bool × V} {l : List Nat} (h : ∀ e, d = some e → e ∉ l) : ∀ k ∈ l, upd t d x k = t k := by
  intro k hk
  cases d with
  | none => rfl
  | some e =>
    simp only [upd]
    rw [if_neg]
    rintro rfl
    exact h k rfl hk
omit [Gls] in
theorem apartL_spec {ops : List Oper} {x y : Oper} (h : apartL ops x y = true) :
    (∀ d, x.dst = some d → d ∉ looks ops y) ∧ (∀ d, x.dst = some d → y.dst ≠ some d) ∧ (∀ d, y.dst = some d → d ∉ looks ops x) := by
  refine ⟨fun d hd => ?_, fun d hd => ?_, fun d hd => ?_⟩ <;> simp [apartL, hd] at h
  · exact h.1.1
  · exact h.1.2
  · exact h.2
theorem hstep {E : Env} {ops : List Oper} {o : Oper} {st : St} (hc : clsE E o ≤ 1) : (step E ops o st).2.h = st.h := by
  rw [step_eq]
  simp only
  rw [sem_h E o _ (ev2_func st) _ hc]
  cases (guardV ops st o.guard).2 <;> rfl
def stepH (E : Env) (ops : List Oper) (o : Oper) (st : St) : Hp := hite (guardV ops st o.guard).2 (sem E (o.dst.getD 0) o.op (ev2 st) st.h).h st.h
theorem stepH_agree {E : Env} {ops : List Oper} {o : Oper} {st st' : St} (h : ∀ k ∈ looks ops o, st.t k = st'.t k) (hh : st.h = st'.h) : stepH E ops o st = stepH E ops o st' := by
  unfold stepH
  rw [guardV_congr h, sem_agree h, hh]
theorem stepH_id {E : Env} {ops : List Oper} {o : Oper} {st : St} (hc : clsE E o ≤ 1) : stepH E ops o st = st.h := hstep hc
def Fre (E : Env) (fr : List Nat) (i : Nat) (o : Oper) (st : St) : Prop := fr.contains i = true → FreeAt E o st
theorem FreeAt.agree {E : Env} {ops : List Oper} {o : Oper} {st st' : St} (h : ∀ k ∈ looks ops o, st.t k = st'.t k) (hf : FreeAt E o st) : FreeAt E o st' := by
  intro h1 h2
  rw [← sem_agree h h2, ← sem_agree h h1]
  exact hf h1 h2
theorem Fre.zero {E : Env} {fr : List Nat} {i : Nat} {o : Oper} {st : St} (hf : Fre E fr i o st) (h0 : kls E fr i o = 0) : FreeAt E o st := by
  unfold kls at h0
  split at h0
  · rename_i h; exact hf (by simp only [Bool.and_eq_true] at h; exact h.1)
  · exact fun h h' => sem_0 E o _ h h' h0
theorem FreeAt.stepH {E : Env} {ops : List Oper} {o : Oper} {st : St} (hf : FreeAt E o st) : stepH E ops o st = st.h := by
  unfold Sx.stepH
  have := hf st.h st.h
  rw [this]
  cases (guardV ops st o.guard).2 <;> rfl
theorem kls_le {E : Env} {fr : List Nat} {i : Nat} {o : Oper} {st : St} {ops : List Oper} (hf : Fre E fr i o st) (h1 : kls E fr i o ≤ 1) : stepH E ops o st = st.h := by
  by_cases h0 : kls E fr i o = 0
  · exact (hf.zero h0).stepH
  · unfold kls at h1 h0
    split at h0
    · exact absurd rfl h0
    · rename_i h; rw [if_neg h] at h1; exact stepH_id h1
theorem stepV_free {E : Env} {ops : List Oper} {o : Oper} {st st' : St} (h : ∀ k ∈ looks ops o, st.t k = st'.t k) (hf : FreeAt E o st') : stepV E ops o st = stepV E ops o st' := by
  unfold stepV
  simp only
  rw [guardV_congr h, valid_congr o.op (fun x hx => ev_agree h x hx), sem_agree h]
  rw [hf st'.h st.h]
omit [Gls] in
theorem hpush_comm (h : Hp) {a b : Nat} (hab : a ≠ b) (A B : Blk) : hpush (hpush h a A) b B = hpush (hpush h b B) a A := by
  funext k
  by_cases h1 : k = a
  · subst h1; simp [hpush, hab]
  · by_cases h2 : k = b
    · subst h2; simp [hpush, Ne.symm hab]
    · simp [hpush, h1, h2]
omit [Gls] in
theorem hnext_other (h : Hp) {a b : Nat} (hab : a ≠ b) (A : Blk) : hnext (hpush h a A) b = hnext h b := by
  simp [hnext, hpush, Ne.symm hab]
def pushO (h : Hp) (s : Nat) : Option Blk → Hp
  | some B => hpush h s B
  | none => h
omit [Gls] in
theorem new_shape {E : Env} {d : Nat} {op : Op} (h : newOp op = true) (ρ : Operand → V) : ∃ (c : Prop) (v : Nat → V) (B : Option Blk), ∀ h, sem E d op ρ h = ⟨c, v (hnext h (E.key + d)), pushO h (E.key + d) B⟩ := by
  cases op <;> simp only [newOp, Bool.false_eq_true] at h
  case alloc T => exact ⟨_, fun n => .bptr (E.key + d) n 1 0 0, some _, fun h => rfl⟩
  case box T x => exact ⟨_, fun n => .bptr (E.key + d) n 1 0 0, some _, fun h => rfl⟩
  case makeSlice T l c =>
    simp only [sem]
    unfold sMakeSlice
    split
    · split
      · exact ⟨_, fun n => .osl (E.key + d) n _ 0 _ _, some _, fun h => rfl⟩
      · exact ⟨_, fun n => .bsl (E.key + d) n _, some _, fun h => rfl⟩
    · exact ⟨False, fun _ => .top, none, fun h => rfl⟩
omit [Gls] in
theorem pushO_comm (h : Hp) {a b : Nat} (hab : a ≠ b) (A B : Option Blk) : pushO (pushO h a A) b B = pushO (pushO h b B) a A := by
  cases A <;> cases B <;> simp only [pushO]
  exact hpush_comm h hab _ _
omit [Gls] in
theorem hnext_pushO (h : Hp) {a b : Nat} (hab : a ≠ b) (A : Option Blk) : hnext (pushO h a A) b = hnext h b := by
  cases A <;> simp only [pushO]
  exact hnext_other h hab _
def Nsh (E : Env) (o : Oper) (st : St) : Prop := ∃ (c : Prop) (v : Nat → V) (B : Option Blk), ∀ h, sem E (o.dst.getD 0) o.op (ev2 st) h = ⟨c, v (hnext h (E.key + o.dst.getD 0)), pushO h (E.key + o.dst.getD 0) B⟩
theorem NwOk.call {o : Oper} {st : St} (hf : NwOk o st) : ∃ c x T, o.op = .call c ∧ c.callee = .builtin .append ∧ c.args.toList = [.const (.slice none 0 0), x] ∧ c.argTypes.toList = [T, T] ∧ ((∃ z els, ev2 st x = .sl z els) ∨ ev2 st x = .nil) := by
  unfold NwOk at hf
  split at hf
  · rename_i c ho
    split at hf
    · rename_i x T T2 h1 h2 h3
      obtain ⟨e, hv⟩ := hf
      subst e
      refine ⟨c, x, _, ho, h1, h2, h3, ?_⟩
      split at hv
      · rename_i z els hx; exact .inl ⟨z, els, hx⟩
      · rename_i hx; exact .inr hx
      · exact hv.elim
    · exact hf.elim
  · exact hf.elim
theorem NwOk.shape {E : Env} {o : Oper} {st : St} (hf : NwOk o st) : Nsh E o st := by
  obtain ⟨c, x, T, ho, h1, h2, h3, hv⟩ := hf.call
  have hn : ev2 st (.const (.slice none 0 0)) = .nil := rfl
  unfold Nsh
  rw [ho]
  simp only [sem, h1, h2, h3, if_true]
  unfold appendV
  cases hT : slEl E.P T with
  | none => exact ⟨False, fun _ => .top, none, fun h => rfl⟩
  | some e =>
    rcases hv with ⟨z, els, hv⟩ | hv
    · simp only [hv, hn]
      exact ⟨_, fun n => .bsl (E.key + o.dst.getD 0) n _, some _, fun h => rfl⟩
    · simp only [hv, hn]
      exact ⟨_, fun n => .bsl (E.key + o.dst.getD 0) n _, some _, fun h => rfl⟩
theorem NwOk.agree {ops : List Oper} {o : Oper} {st st' : St} (h : ∀ k ∈ looks ops o, st.t k = st'.t k) (hf : NwOk o st) : NwOk o st' := by
  obtain ⟨c, x, T, ho, h1, h2, h3, hv⟩ := hf.call
  have hx : ev2 st' x = ev2 st x := by
    unfold ev2
    rw [ev_agree h x (by simp [ho, Op.operands, Call.operands, h1]; rw [← Array.mem_toList_iff, h2]; simp)]
  unfold NwOk
  simp only [ho, h1, h2, h3, true_and, hx]
  rcases hv with ⟨z, els, hv⟩ | hv <;> rw [hv] <;> trivial
theorem NwOk.keeper {o : Oper} {st : St} (hf : NwOk o st) : keeper o = true := by
  obtain ⟨c, x, T, ho, h1, h2, h3, hv⟩ := hf.call
  simp only [Sx.keeper, ho, h1]
theorem newB_shape {E : Env} {fr : List Nat} {i : Nat} {o : Oper} {st : St} (h : newB fr i o = true) (hn : fr.contains (i + 3000) = true → NwOk o st) : Nsh E o st := by
  unfold newB at h
  rw [Bool.or_eq_true] at h
  rcases h with h | h
  · obtain ⟨c, v, B, e⟩ := new_shape (E := E) (d := o.dst.getD 0) h (ev2 st)
    exact ⟨c, v, B, e⟩
  · exact (hn h).shape
theorem new_after {E : Env} {x y : Oper} {a b : Nat} (dx : x.dst = some a) (dy : y.dst = some b) (hab : a ≠ b) {st : St} (hx : Nsh E x st) (hy : Nsh E y st) (g : Bool) :
    (sem E (y.dst.getD 0) y.op (ev2 st) (hite g (sem E (x.dst.getD 0) x.op (ev2 st) st.h).h st.h)).v = (sem E (y.dst.getD 0) y.op (ev2 st) st.h).v ∧
    ((sem E (y.dst.getD 0) y.op (ev2 st) (hite g (sem E (x.dst.getD 0) x.op (ev2 st) st.h).h st.h)).c = (sem E (y.dst.getD 0) y.op (ev2 st) st.h).c) := by
  have hk : E.key + a ≠ E.key + b := fun e => hab (Nat.add_left_cancel e)
  obtain ⟨c1, v1, B1, e1⟩ := hx
  obtain ⟨c2, v2, B2, e2⟩ := hy
  rw [dx] at e1 ⊢
  rw [dy] at e2 ⊢
  simp only [Option.getD_some] at e1 e2 ⊢
  simp only [e1, e2]
  cases g
  · exact ⟨by simp only [hite], trivial⟩
  · exact ⟨by simp only [hite, hnext_pushO _ hk], trivial⟩
theorem new_heaps {E : Env} {x y : Oper} {a b : Nat} (dx : x.dst = some a) (dy : y.dst = some b) (hab : a ≠ b) {st : St} (hx : Nsh E x st) (hy : Nsh E y st) (g g' : Bool) :
    hite g' (sem E (y.dst.getD 0) y.op (ev2 st) (hite g (sem E (x.dst.getD 0) x.op (ev2 st) st.h).h st.h)).h (hite g (sem E (x.dst.getD 0) x.op (ev2 st) st.h).h st.h) =
    hite g (sem E (x.dst.getD 0) x.op (ev2 st) (hite g' (sem E (y.dst.getD 0) y.op (ev2 st) st.h).h st.h)).h (hite g' (sem E (y.dst.getD 0) y.op (ev2 st) st.h).h st.h) := by
  have hk : E.key + a ≠ E.key + b := fun e => hab (Nat.add_left_cancel e)
  obtain ⟨c1, v1, B1, e1⟩ := hx
  obtain ⟨c2, v2, B2, e2⟩ := hy
  rw [dx] at e1 ⊢
  rw [dy] at e2 ⊢
  simp only [Option.getD_some] at e1 e2 ⊢
  simp only [e1, e2]
  cases g <;> cases g' <;> simp only [hite]
  exact pushO_comm _ hk _ _
theorem step_new {E : Env} {ops : List Oper} {x y : Oper} {a b : Nat} (dx : x.dst = some a) (dy : y.dst = some b) (hab : a ≠ b) {st : St} (hx : Nsh E x st) (hy : Nsh E y st) (ey : ∀ k ∈ looks ops y, (step E ops x st).2.t k = st.t k) : stepV E ops y (step E ops x st).2 = stepV E ops y st := by
  have hh : (step E ops x st).2.h = hite (guardV ops st x.guard).2 (sem E (x.dst.getD 0) x.op (ev2 st) st.h).h st.h := rfl
  obtain ⟨n1, n2⟩ := new_after (E := E) dx dy hab hx hy (guardV ops st x.guard).2
  unfold stepV
  simp only
  rw [guardV_congr ey, valid_congr y.op (fun z hz => ev_agree ey z hz), sem_agree ey, hh, n1, n2]
theorem FzOk.load {o : Oper} {st : St} (hf : FzOk o st) : ∃ T a s i n e j B, o.op = .load T a ∧ ev2 st a = .bptr s i n e j ∧ hget st.h s i = some B ∧ B.fz = true := by
  unfold FzOk at hf
  split at hf
  · rename_i T a ho
    split at hf
    · rename_i s i n e j hv
      split at hf
      · rename_i B hB; exact ⟨T, a, s, i, n, e, j, B, ho, hv, hB, hf⟩
      · exact hf.elim
    · exact hf.elim
  · exact hf.elim
def KF (h h' : Hp) : Prop := ∀ s i B, B.fz = true → (hget h s i = some B ↔ hget h' s i = some B)
omit [Gls] in
theorem KF.refl (h : Hp) : KF h h := fun _ _ _ _ => Iff.rfl
omit [Gls] in
theorem KF.symm {h h' : Hp} (k : KF h h') : KF h' h := fun s i B hB => (k s i B hB).symm
omit [Gls] in
theorem KF.push (h : Hp) (s : Nat) {B : Blk} (hB : B.fz = false) : KF h (hpush h s B) := by
  intro s' i' B' hB'
  by_cases hs : s' = s ∧ i' = hnext h s
  · obtain ⟨rfl, rfl⟩ := hs
    rw [hget_push_new]
    constructor
    · intro hg; have := hget_lt hg; omega
    · intro e; cases e; rw [hB] at hB'; cases hB'
  · rw [hget_push_old h s s' i' B (fun e e' => hs ⟨e, e'⟩)]
omit [Gls] in
theorem KF.set {h : Hp} {s i : Nat} {B0 B : Blk} (hg : hget h s i = some B0) (h0 : B0.fz = false) (hB : B.fz = false) : KF h (hset h s i B) := by
  intro s' i' B' hB'
  by_cases hs : s' = s ∧ i' = i
  · obtain ⟨rfl, rfl⟩ := hs
    rw [hget_set_same hg, hg]
    constructor
    · intro e; cases e; rw [h0] at hB'; cases hB'
    · intro e; cases e; rw [hB] at hB'; cases hB'
  · rw [hget_set_other h B hs (hget_base hg)]
omit [Gls] in
theorem keep_append {E : Env} {key : Nat} {T : TypeId} {s x : V} {h : Hp} (hc : (appendV E key T s x h).c) : KF h (appendV E key T s x h).h := by
  unfold appendV at hc ⊢
  split
  · exact .refl _
  · rename_i e he
    simp only [he] at hc
    cases s <;> simp only at hc ⊢ <;> (try exact .refl _)
    case nil => exact .push _ _ rfl
    case bsl s0 i0 n0 =>
      cases hg : hget h s0 i0 with
      | none => simp only [hg]; exact .refl _
      | some B =>
        simp only [hg] at hc ⊢
        exact .set hg hc.2.2.2.2.2.2.1 hc.2.2.2.2.2.2.1
    case osl s0 i0 n0 off len cap =>
      cases hg : hget h s0 i0 with
      | none => simp only [hg]; exact .refl _
      | some B =>
        simp only [hg] at hc ⊢
        exact .set hg hc.2.2.2.2.2.1 hc.2.2.2.2.2.1
    case emp => exact iteInduction (motive := fun o => KF h (Out.h o)) (fun _ => .refl _) (fun _ => iteInduction (motive := fun o => KF h (Out.h o)) (fun _ => .refl _) (fun _ => .push _ _ rfl))
omit [Gls] in
theorem keep_appendZ {P : Program} {own : Bool} {key : Nat} {T T2 : TypeId} {s x : V} {h : Hp} : KF h (sAppendZ P own key T T2 s x h).h := by
  unfold sAppendZ
  split
  · exact .push _ _ rfl
  · exact .refl _
omit [Gls] in
theorem keep_sem {E : Env} {o : Oper} {ρ : Operand → V} {h : Hp} (hk : keeper o = true) (hc : (sem E (o.dst.getD 0) o.op ρ h).c) : KF h (sem E (o.dst.getD 0) o.op ρ h).h := by
  obtain ⟨dst, op, ty, pos, aft, gd⟩ := o
  cases op <;> simp only [keeper, Bool.false_eq_true] at hk
  case alloc => exact .push _ _ rfl
  case box => exact .push _ _ rfl
  case buildSlice T n parts =>
    simp only [sem, sBuildSlice] at hc ⊢
    split
    · rw [sBuildE_h]; exact .refl _
    split
    · split
      · exact .push _ _ rfl
      · exact .refl _
    · exact .refl _
  case store T a x =>
    simp only [sem] at hc ⊢
    unfold sStore at hc ⊢
    cases ha : ρ a <;> simp only [ha] at hc ⊢ <;> (try exact .refl _)
    case bptr s i n e j =>
      cases hg : hget h s i with
      | none => simp only [hg]; exact .refl _
      | some B =>
        simp only [hg] at hc ⊢
        exact .set hg hc.2.2.2.2.1 hc.2.2.2.2.1
  case makeSlice T l c =>
    simp only [sem] at hc ⊢
    unfold sMakeSlice
    split
    · split
      · exact .push _ _ rfl
      · exact .push _ _ rfl
    · exact .refl _
  case call c =>
    cases hcc : c.callee with
    | value f => rw [hcc] at hk; cases hk
    | invoke r m => rw [hcc] at hk; cases hk
    | builtin b =>
      rw [hcc] at hk
      cases b <;> simp only [Bool.false_eq_true] at hk
      simp only [sem, hcc] at hc ⊢
      split
      · rename_i s x T T2 ha ht
        simp only [ha, ht] at hc
        split
        · rename_i e; rw [if_pos e] at hc; exact keep_append hc
        · exact keep_appendZ
      · exact .refl _
theorem keep_step {E : Env} {ops : List Oper} {o : Oper} {st : St} (hk : keeper o = true) (hc : (step E ops o st).1) : KF st.h (step E ops o st).2.h := by
  rw [step_eq] at hc ⊢
  simp only [stepV] at hc ⊢
  cases hg : (guardV ops st o.guard).2 with
  | false => exact .refl _
  | true => exact keep_sem hk (hc.2.2 hg).2
theorem FzOk.agree {ops : List Oper} {o : Oper} {st st' : St} (h : ∀ k ∈ looks ops o, st.t k = st'.t k) (hk : KF st.h st'.h) (hf : FzOk o st) : FzOk o st' := by
  obtain ⟨T, a, s, i, n, e, j, B, ho, hv, hB, hz⟩ := hf.load
  have hv' : ev2 st' a = .bptr s i n e j := by
    rw [← hv]; unfold ev2; rw [ev_agree h a (by simp [ho, Op.operands])]
  unfold FzOk
  simp only [ho, hv', (hk s i B hz).1 hB, hz]
theorem FzOk.cls {E : Env} {o : Oper} {st : St} (hf : FzOk o st) : clsE E o = 1 := by
  obtain ⟨T, a, s, i, n, e, j, B, ho, -⟩ := hf.load
  simp only [clsE, ho]
theorem stepV_fz {E : Env} {ops : List Oper} {o : Oper} {st st' : St} (h : ∀ k ∈ looks ops o, st.t k = st'.t k) (hk : KF st.h st'.h) (hf : FzOk o st) : stepV E ops o st' = stepV E ops o st := by
  obtain ⟨T, a, s, i, n, e, j, B, ho, hv, hB, hz⟩ := hf.load
  have hs : sem E (o.dst.getD 0) o.op (ev2 st) st'.h = { sem E (o.dst.getD 0) o.op (ev2 st) st.h with h := st'.h } := by
    rw [ho]
    simp only [sem, sLoad, hv, hB, (hk s i B hz).1 hB]
  unfold stepV
  simp only
  rw [← guardV_congr h, ← valid_congr o.op (fun x hx => ev_agree h x hx), ← sem_agree h, hs]
theorem FoOk.cls {E : Env} {ops : List Oper} {o : Oper} {st : St} (hf : FoOk E ops o st) : clsE E o = 1 := by
  unfold FoOk at hf
  split at hf
  · rename_i T a ho; simp only [clsE, ho]
  · rename_i T a ix ho; simp only [clsE, ho]
  · exact hf.elim
theorem FoOk.agree {E : Env} {ops : List Oper} {o : Oper} {st st' : St} (h : ∀ k ∈ looks ops o, st.t k = st'.t k) (hf : FoOk E ops o st) : FoOk E ops o st' := by
  unfold FoOk at hf ⊢
  split at hf
  · rename_i T a ho
    have : ev2 st' a = ev2 st a := by unfold ev2; rw [ev_agree h a (by simp [ho, Op.operands])]
    simp only [this]; exact hf
  · rename_i T a ix ho
    have : ev2 st' a = ev2 st a := by unfold ev2; rw [ev_agree h a (by simp [ho, Op.operands])]
    simp only [this]; exact hf
  · exact hf.elim
omit [Gls] in
theorem push_shape {E : Env} {o : Oper} (h : pusher o = true) (ρ : Operand → V) (hρ : ρ (.const (.slice none 0 0)) = .nil) (hp : Hp) : ∃ B : Option Blk, (sem E (o.dst.getD 0) o.op ρ hp).h = pushO hp (E.key + o.dst.getD 0) B := by
  obtain ⟨dst, op, ty, pos, aft, gd⟩ := o
  cases op <;> simp only [pusher, Bool.false_eq_true] at h
  case alloc T => exact ⟨some _, rfl⟩
  case box T x => exact ⟨some _, rfl⟩
  case buildSlice T n parts =>
    simp only [sem, sBuildSlice]
    split
    · exact ⟨none, sBuildE_h _ _ _ _ _⟩
    split
    · split
      · exact ⟨some _, rfl⟩
      · exact ⟨none, rfl⟩
    · exact ⟨none, rfl⟩
  case makeSlice T l c =>
    simp only [sem]
    unfold sMakeSlice
    split
    · split
      · exact ⟨some _, rfl⟩
      · exact ⟨some _, rfl⟩
    · exact ⟨none, rfl⟩
  case call c =>
    unfold nilApp at h
    split at h
    · rename_i x h1 h2
      simp only [sem, h1, h2]
      split
      · rename_i s x' T T2 e1 e2
        simp only [List.cons.injEq, and_true] at e1
        obtain ⟨rfl, rfl⟩ := e1
        have hn : ρ (.const (.slice none 0 0)) = .nil := hρ
        split
        · unfold appendV
          rw [hn]
          split
          · exact ⟨none, rfl⟩
          · exact ⟨some _, rfl⟩
        · unfold sAppendZ
          split
          · exact ⟨some _, rfl⟩
          · exact ⟨none, rfl⟩
      · exact ⟨none, rfl⟩
    · cases h
omit [Gls] in
theorem hget_pushO (h : Hp) {s k : Nat} (hs : s ≠ k) (B : Option Blk) (i : Nat) : hget (pushO h k B) s i = hget h s i := by
  cases B with
  | none => rfl
  | some B => exact hget_push_old h k s i B (fun e => absurd e hs)
theorem push_step {E : Env} {ops : List Oper} {o : Oper} {st : St} (hk : pusher o = true) : ∃ B : Option Blk, (step E ops o st).2.h = pushO st.h (E.key + o.dst.getD 0) B := by
  rw [step_eq]
  simp only
  cases (guardV ops st o.guard).2 with
  | false => exact ⟨none, rfl⟩
  | true => exact push_shape hk _ rfl _
omit [Gls] in
theorem push_keeper {o : Oper} (h : pusher o = true) : keeper o = true := by
  unfold pusher at h; unfold keeper
  split at h <;> first | (rename_i ho; simp only [ho]; done) | (cases h; done) | skip
  rename_i c ho
  rw [ho]
  unfold nilApp at h
  split at h
  · rename_i h1 h2; simp only [h1]
  · cases h
theorem stepV_fo {E : Env} {ops : List Oper} {o y : Oper} {st st' : St} (h : ∀ k ∈ looks ops o, st.t k = st'.t k) (hy : fromReg ops y = true) {B : Option Blk} (hh : st'.h = pushO st.h (E.key + y.dst.getD 0) B) (hf : FoOk E ops o st) : stepV E ops o st' = stepV E ops o st := by
  simp only [fromReg, Bool.and_eq_true, List.any_eq_true, beq_iff_eq] at hy
  obtain ⟨hy1, q, hq, hq1, hq2⟩ := hy
  have key : ∀ {s : Nat}, (ops.all fun q => !pusher q || E.key + q.dst.getD 0 != s) = true → s ≠ E.key + y.dst.getD 0 := by
    intro s ha e
    have := List.all_eq_true.1 ha q hq
    rw [hq1, hq2, e] at this
    simp at this
  have hs : sem E (o.dst.getD 0) o.op (ev2 st) st'.h = { sem E (o.dst.getD 0) o.op (ev2 st) st.h with h := st'.h } := by
    unfold FoOk at hf
    split at hf
    · rename_i T a ho
      split at hf
      · rename_i s i n e j hv
        have hg := hget_pushO st.h (key hf) B i
        rw [← hh] at hg
        rw [ho]
        simp only [sem, sLoad, hv, hg]
        split <;> rfl
      · exact hf.elim
    · rename_i T a ix ho
      rw [ho]
      simp only [sem]
      split at hf
      · rename_i s i n e j hv
        rw [hv]
        unfold sIndexAddr
        cases ev2 st ix <;> try rfl
        cases slEl E.P T <;> cases arEl E.P T <;> rfl
      · rename_i s i n hv
        have hg := hget_pushO st.h (key hf) B i
        rw [← hh] at hg
        rw [hv]
        unfold sIndexAddr
        cases ev2 st ix <;> try rfl
        cases slEl E.P T <;> cases arEl E.P T <;> (try rfl) <;> simp only [hg] <;> split <;> rfl
      · rename_i s i n off len cap hv
        have hg := hget_pushO st.h (key hf) B i
        rw [← hh] at hg
        rw [hv]
        unfold sIndexAddr
        cases ev2 st ix <;> try rfl
        cases slEl E.P T <;> cases arEl E.P T <;> (try rfl) <;> simp only [hg] <;> split <;> rfl
      · exact hf.elim
    · exact hf.elim
  unfold stepV
  simp only
  rw [← guardV_congr h, ← valid_congr o.op (fun x hx => ev_agree h x hx), ← sem_agree h, hs]
def Fre2 (E : Env) (ops : List Oper) (fr : List Nat) (i : Nat) (o : Oper) (st : St) : Prop := Fre E fr i o st ∧ (fr.contains (i + 1000) = true → FzOk o st) ∧ (fr.contains (i + 2000) = true → FoOk E ops o st) ∧ (fr.contains (i + 3000) = true → NwOk o st)
theorem step_comm {E : Env} {ops : List Oper} {fr : List Nat} {i j : Nat} {x y : Oper} (h : commE E ops fr i x j y = true) (st : St) (D1 : Fre2 E ops fr i x st) (D2 : Fre2 E ops fr j y (step E ops x st).2) (hC : (step E ops x st).1 ∧ (step E ops y (step E ops x st).2).1) :
    ((step E ops y (step E ops x st).2).2 = (step E ops x (step E ops y st).2).2 ∧
    (step E ops y st).1 ∧ (step E ops x (step E ops y st).2).1) ∧ Fre2 E ops fr j y st ∧ Fre2 E ops fr i x (step E ops y st).2 := by
  obtain ⟨d1, z1, f1, w1⟩ := D1
  obtain ⟨d2, z2, f2, w2⟩ := D2
  simp only [commE, Bool.and_eq_true] at h
  obtain ⟨ha, hc⟩ := h
  obtain ⟨a1, a2, a3⟩ := apartL_spec ha
  have hcx : kls E fr i x = 0 ∨ (kls E fr j y = 0) ∨ (kls E fr i x = 1 ∧ kls E fr j y = 1) ∨ twoNew fr i x j y = true ∨ (fr.contains (i + 1000) = true ∧ keeper y = true) ∨ (fr.contains (j + 1000) = true ∧ keeper x = true) ∨ (fr.contains (i + 2000) = true ∧ fromReg ops y = true) ∨ (fr.contains (j + 2000) = true ∧ fromReg ops x = true) := by
    simp only [commH, Bool.or_eq_true, Bool.and_eq_true, beq_iff_eq] at hc
    rcases hc with ((((((h | h) | h) | h) | h) | h) | h) | h
    · exact .inl h
    · exact .inr (.inl h)
    · exact .inr (.inr (.inl h))
    · exact .inr (.inr (.inr (.inl h)))
    · exact .inr (.inr (.inr (.inr (.inl h))))
    · exact .inr (.inr (.inr (.inr (.inr (.inl h)))))
    · exact .inr (.inr (.inr (.inr (.inr (.inr (.inl h))))))
    · exact .inr (.inr (.inr (.inr (.inr (.inr (.inr h))))))
  have ey : ∀ k ∈ looks ops y, (step E ops x st).2.t k = st.t k := upd_agree a1
  have ex : ∀ k ∈ looks ops x, (step E ops y st).2.t k = st.t k := upd_agree a3
  have d2' : Fre E fr j y st := fun h => (d2 h).agree ey
  have d1' : Fre E fr i x (step E ops y st).2 := fun h => (d1 h).agree (fun k hk => (ex k hk).symm)
  have hy : ∀ st' : St, (step E ops y st').2 = { t := upd st'.t y.dst (stepV E ops y st').2, h := stepH E ops y st' } := fun _ => rfl
  have hx : ∀ st' : St, (step E ops x st').2 = { t := upd st'.t x.dst (stepV E ops x st').2, h := stepH E ops x st' } := fun _ => rfl
  have py : ∀ st' : St, (step E ops y st').1 = (stepV E ops y st').1 := fun _ => rfl
  have px : ∀ st' : St, (step E ops x st').1 = (stepV E ops x st').1 := fun _ => rfl
  have xh : ∀ st', (step E ops x st').2.h = stepH E ops x st' := fun _ => rfl
  have yh : ∀ st', (step E ops y st').2.h = stepH E ops y st' := fun _ => rfl
  have w2' : fr.contains (j + 3000) = true → NwOk y st := fun hj => (w2 hj).agree ey
  have w1' : fr.contains (i + 3000) = true → NwOk x (step E ops y st).2 := fun hi => (w1 hi).agree (fun k hk => (ex k hk).symm)
  have kn : ∀ {i : Nat} {b : Oper}, newB fr i b = true → (fr.contains (i + 3000) = true → NwOk b st) → keeper b = true := by
    intro i b hb hw
    unfold newB at hb
    rw [Bool.or_eq_true] at hb
    rcases hb with hb | hb
    · revert hb
      cases hop : b.op <;> simp [newOp, keeper, hop]
    · exact (hw hb).keeper
  have regp : ∀ {o : Oper}, fromReg ops o = true → pusher o = true := by
    intro o h
    simp only [fromReg, Bool.and_eq_true] at h
    exact h.1
  have kx : fr.contains (j + 1000) = true → KF st.h (step E ops x st).2.h := by
    intro hj
    have c1 := (z2 hj).cls (E := E)
    have ky : kls E fr j y = 1 := by
      unfold kls; rw [if_neg (by simp only [hj]; simp)]; exact c1
    rcases hcx with h | h | ⟨h, h'⟩ | h | ⟨h, h'⟩ | ⟨h, h'⟩ | ⟨h, h'⟩ | ⟨h, h'⟩
    · rw [xh, kls_le d1 (by omega)]; exact .refl _
    · omega
    · rw [xh, kls_le d1 (by omega)]; exact .refl _
    · obtain ⟨_, _, hb, _⟩ := twoNew_spec h
      exact keep_step (kn hb w1) hC.1
    · rw [xh, stepH_id (by rw [(z1 h).cls (E := E)]; exact Nat.le_refl _)]; exact .refl _
    · exact keep_step h' hC.1
    · rw [xh, stepH_id (by rw [(f1 h).cls]; exact Nat.le_refl _)]; exact .refl _
    · exact keep_step (push_keeper (regp h')) hC.1
  have f2' : fr.contains (j + 2000) = true → FoOk E ops y st := fun hj => (f2 hj).agree ey
  have f1' : fr.contains (i + 2000) = true → FoOk E ops x (step E ops y st).2 := fun hi => (f1 hi).agree (fun k hk => (ex k hk).symm)
  have z2' : fr.contains (j + 1000) = true → FzOk y st := fun hj => (z2 hj).agree ey (kx hj).symm
  have vy : stepV E ops y (step E ops x st).2 = stepV E ops y st := by
    rcases hcx with h | h | ⟨h, h'⟩ | h | ⟨h, h'⟩ | ⟨h, h'⟩ | ⟨h, h'⟩ | ⟨h, h'⟩
    · exact stepV_agree ey (.inl (by rw [xh]; exact kls_le d1 (by omega)))
    · exact stepV_free ey (d2'.zero h)
    · exact stepV_agree ey (.inl (by rw [xh]; exact kls_le d1 (by omega)))
    · obtain ⟨_, _, hb, hb', dx, dy, hab⟩ := twoNew_spec h
      exact step_new dx dy hab (newB_shape hb w1) (newB_shape hb' w2') ey
    · exact stepV_agree ey (.inl (by rw [xh]; exact stepH_id (by rw [(z1 h).cls (E := E)]; exact Nat.le_refl _)))
    · exact stepV_fz (fun k hk => (ey k hk).symm) (kx h) (z2' h)
    · exact stepV_agree ey (.inl (by rw [xh]; exact stepH_id (by rw [(f1 h).cls]; exact Nat.le_refl _)))
    · obtain ⟨B, hB⟩ := push_step (E := E) (ops := ops) (st := st) (regp h')
      exact stepV_fo (fun k hk => (ey k hk).symm) h' hB (f2' h)
  have hCy : (step E ops y st).1 := by rw [py, ← vy, ← py]; exact hC.2
  have ky : fr.contains (i + 1000) = true → KF st.h (step E ops y st).2.h := by
    intro hi
    have c1 := (z1 hi).cls (E := E)
    have kx : kls E fr i x = 1 := by
      unfold kls; rw [if_neg (by simp only [hi]; simp)]; exact c1
    rcases hcx with h | h | ⟨h, h'⟩ | h | ⟨h, h'⟩ | ⟨h, h'⟩ | ⟨h, h'⟩ | ⟨h, h'⟩
    · omega
    · rw [yh, kls_le d2' (by omega)]; exact .refl _
    · rw [yh, kls_le d2' (by omega)]; exact .refl _
    · obtain ⟨_, _, hb, hb', _⟩ := twoNew_spec h
      exact keep_step (kn hb' w2') hCy
    · exact keep_step h' hCy
    · rw [yh, stepH_id (by rw [(z2' h).cls (E := E)]; exact Nat.le_refl _)]; exact .refl _
    · exact keep_step (push_keeper (regp h')) hCy
    · rw [yh, stepH_id (by rw [(f2' h).cls]; exact Nat.le_refl _)]; exact .refl _
  have z1' : fr.contains (i + 1000) = true → FzOk x (step E ops y st).2 := fun hi => (z1 hi).agree (fun k hk => (ex k hk).symm) (ky hi)
  have vx : stepV E ops x (step E ops y st).2 = stepV E ops x st := by
    rcases hcx with h | h | ⟨h, h'⟩ | h | ⟨h, h'⟩ | ⟨h, h'⟩ | ⟨h, h'⟩ | ⟨h, h'⟩
    · exact stepV_free ex (d1.zero h)
    · exact stepV_agree ex (.inl (by rw [yh]; exact kls_le d2' (by omega)))
    · exact stepV_agree ex (.inl (by rw [yh]; exact kls_le d2' (by omega)))
    · obtain ⟨_, _, hb, hb', dx, dy, hab⟩ := twoNew_spec h
      exact step_new dy dx (Ne.symm hab) (newB_shape hb' w2') (newB_shape hb w1) ex
    · exact stepV_fz (fun k hk => (ex k hk).symm) (ky h) (z1 h)
    · exact stepV_agree ex (.inl (by rw [yh]; exact stepH_id (by rw [(z2' h).cls (E := E)]; exact Nat.le_refl _)))
    · obtain ⟨B, hB⟩ := push_step (E := E) (ops := ops) (st := st) (regp h')
      exact stepV_fo (fun k hk => (ex k hk).symm) h' hB (f1 h)
    · exact stepV_agree ex (.inl (by rw [yh]; exact stepH_id (by rw [(f2' h).cls]; exact Nat.le_refl _)))
  refine ⟨⟨?_, hCy, ?_⟩, ⟨d2', z2', f2', w2'⟩, ⟨d1', z1', f1', w1'⟩⟩
  · rw [hy (step E ops x st).2, hx (step E ops y st).2, vy, vx]
    have et : upd (step E ops x st).2.t y.dst (stepV E ops y st).2 = upd (step E ops y st).2.t x.dst (stepV E ops x st).2 := upd_comm st.t _ _ a2
    have eh : stepH E ops y (step E ops x st).2 = stepH E ops x (step E ops y st).2 := by
      rcases hcx with h | h | ⟨h, h'⟩ | h | ⟨h, h'⟩ | ⟨h, h'⟩ | ⟨h, h'⟩ | ⟨h, h'⟩
      · rw [kls_le d1' (by omega), stepH_agree ey (by rw [xh]; exact kls_le d1 (by omega)), yh]
      · rw [kls_le d2 (by omega), stepH_agree ex (by rw [yh]; exact kls_le d2' (by omega)), xh]
      · rw [kls_le d2 (by omega), kls_le d1' (by omega), xh, yh, kls_le d1 (by omega), kls_le d2' (by omega)]
      · unfold stepH
        rw [guardV_congr ey, guardV_congr ex, sem_agree ey, sem_agree ex, xh, yh]
        obtain ⟨_, _, hb, hb', dx, dy, hab⟩ := twoNew_spec h
        exact new_heaps dx dy hab (newB_shape hb w1) (newB_shape hb' w2') _ _
      · have c1 : clsE E x ≤ 1 := by rw [(z1 h).cls (E := E)]; exact Nat.le_refl _
        rw [stepH_id c1, stepH_agree ey (by rw [xh]; exact stepH_id c1), yh]
      · have c1 : clsE E y ≤ 1 := by rw [(z2' h).cls (E := E)]; exact Nat.le_refl _
        rw [stepH_id c1, stepH_agree ex (by rw [yh]; exact stepH_id c1), xh]
      · have c1 : clsE E x ≤ 1 := by rw [(f1 h).cls]; exact Nat.le_refl _
        rw [stepH_id c1, stepH_agree ey (by rw [xh]; exact stepH_id c1), yh]
      · have c1 : clsE E y ≤ 1 := by rw [(f2' h).cls]; exact Nat.le_refl _
        rw [stepH_id c1, stepH_agree ex (by rw [yh]; exact stepH_id c1), xh]
    rw [et, eh]
  · rw [px, vx, ← px]; exact hC.1
theorem runL_cons (E : Env) (ops : List Oper) (o : Oper) (l : List Oper) (st : St) : runL E ops (o :: l) st = ((step E ops o st).1 ∧ (runL E ops l (step E ops o st).2).1, (runL E ops l (step E ops o st).2).2) := rfl
def Imp (a b : Prop × St) : Prop := a.1 → b.1 ∧ a.2 = b.2
omit [Gls] in
theorem Imp.refl (a : Prop × St) : Imp a a := fun h => ⟨h, rfl⟩
omit [Gls] in
theorem Imp.trans {a b c : Prop × St} (h : Imp a b) (h' : Imp b c) : Imp a c := fun k => ⟨(h' (h k).1).1, (h k).2.trans (h' (h k).1).2⟩
theorem runI_cons {E : Env} {ops : List Oper} {fr : List Nat} {i : Nat} {o : Oper} (ho : ops[i]? = some o) (l : List Nat) (st : St) : runI E ops fr (i :: l) st = ((Fre2 E ops fr i o st ∧ (step E ops o st).1) ∧ (runI E ops fr l (step E ops o st).2).1, (runI E ops fr l (step E ops o st).2).2) := by
  rw [runI]; simp only [ho]; rfl
theorem Imp.cons {E : Env} {ops : List Oper} {fr : List Nat} {i : Nat} {o : Oper} (ho : ops[i]? = some o) {l l' : List Nat} {st : St} (h : Imp (runI E ops fr l (step E ops o st).2) (runI E ops fr l' (step E ops o st).2)) : Imp (runI E ops fr (i :: l) st) (runI E ops fr (i :: l') st) := by
  rw [runI_cons ho, runI_cons ho]
  exact fun k => ⟨⟨k.1, (h k.2).1⟩, (h k.2).2⟩
theorem move_front {E : Env} {ops : List Oper} {fr : List Nat} {i : Nat} {x : Oper} (hx : ops[i]? = some x) : ∀ (pre post : List Nat), (∀ j ∈ pre, ∃ y, ops[j]? = some y ∧ commE E ops fr j y i x = true) → ∀ st, Imp (runI E ops fr (pre ++ i :: post) st) (runI E ops fr (i :: (pre ++ post)) st)
  | [], post, _, st => Imp.refl _
  | j :: pre, post, h, st => by
    obtain ⟨y, hy, hc⟩ := h j (by simp)
    refine Imp.trans (Imp.cons hy (move_front hx pre post (fun z hz => h z (by simp [hz])) _)) ?_
    simp only [List.cons_append, runI_cons hx, runI_cons hy]
    rintro ⟨⟨d1, c1⟩, ⟨d2, c2⟩, hr⟩
    obtain ⟨⟨hs, this⟩, d2', d1'⟩ := step_comm hc st d1 d2 ⟨c1, c2⟩
    simp only at hr ⊢
    rw [hs] at hr ⊢
    exact ⟨⟨⟨d2', this.1⟩, ⟨d1', this.2⟩, hr⟩, rfl⟩
structure Left (n : Nat) (τ : List Nat) (listed : Array Bool) (rem : List Nat) : Prop where
  sorted : rem.Pairwise (fun a b => τ.idxOf a < τ.idxOf b)
  lt : ∀ i ∈ rem, i < n
  iff : ∀ i, i < n → (i ∈ rem ↔ listed.getD i true = false)
  size : listed.size = n
omit [Gls] in
theorem okT_spec {E : Env} {ops : List Oper} {fr : List Nat} {N : List (Nat × Nat)} {τ : List Nat} (h : okT E ops fr N τ = true) :
    τ.Pairwise (fun a b => τ.idxOf a < τ.idxOf b) ∧ (∀ i ∈ τ, i < ops.length) ∧ (∀ i, i < ops.length → i ∈ τ) ∧ ∀ j y, ops[j]? = some y →
      (∀ e ∈ y.after, Region.binds .any e = true → e.on < ops.length ∧ τ.idxOf e.on < τ.idxOf j) ∧ ∀ i x, ops[i]? = some x → τ.idxOf i < τ.idxOf j → edged y i = true ∨ commE E ops fr i x j y = true ∨ (i, j) ∈ N ∨ (j, i) ∈ N ∨ pathTo ops i j = true := by
  simp only [okT, Bool.and_eq_true, decide_eq_true_eq, List.all_eq_true, List.mem_range, List.contains_iff_mem] at h
  obtain ⟨⟨⟨h1, h2⟩, h3⟩, h4⟩ := h
  refine ⟨h1, h2, h3, fun j y hy => ?_⟩
  have hj : j < ops.length := (List.getElem?_eq_some_iff.1 hy).1
  have h5 := h4 j hj
  rw [hy] at h5
  refine ⟨fun e he hbe => ?_, fun i x hx hlt => ?_⟩
  · have := Array.all_eq_true_iff_forall_mem.1 h5.1 e he
    simpa [hbe] using this
  · have hi : i < ops.length := (List.getElem?_eq_some_iff.1 hx).1
    have := h5.2 i hi
    simp only [hlt, decide_true, Bool.not_true, Bool.false_or, Bool.or_eq_true, edgedBy, hy, commAt, hx, List.contains_iff_mem] at this
    rcases this with (((h | h) | h) | h) | h
    · exact .inl h
    · exact .inr (.inl h)
    · exact .inr (.inr (.inl h))
    · exact .inr (.inr (.inr (.inl h)))
    · exact .inr (.inr (.inr (.inr h)))
omit [Gls] in
theorem mem_ready {md : Region.Mode} {ops : Array Oper} {listed : Array Bool} {i : Nat} (h : i ∈ Region.ready md ops listed) : i < ops.size ∧ listed.getD i true = false ∧ ∀ y, ops[i]? = some y → ∀ e ∈ y.after, Region.binds md e = true → listed.getD e.on false = true := by
  simp only [Region.ready, List.mem_filter, List.mem_range, Bool.and_eq_true, Bool.not_eq_true'] at h
  obtain ⟨h1, h2, h3⟩ := h
  refine ⟨h1, h2, fun y hy e he hb => ?_⟩
  simp only [hy, Option.map_some, Option.getD_some] at h3
  have := Array.all_eq_true_iff_forall_mem.1 h3 e he
  simpa [hb] using this
def Agree (τ L : List Nat) (p : Nat × Nat) : Prop := (τ.idxOf p.1 < τ.idxOf p.2 → ¬ L.idxOf p.2 < L.idxOf p.1) ∧ (τ.idxOf p.2 < τ.idxOf p.1 → ¬ L.idxOf p.1 < L.idxOf p.2)
omit [Gls] in
theorem idx_ne {i a : Nat} {L : List Nat} (ha : a ≠ i) : (i :: L).idxOf a = L.idxOf a + 1 := by
  have : (i == a) = false := by simpa using fun h : i = a => ha h.symm
  simp [List.idxOf_cons, this]
omit [Gls] in
theorem idxOf_tail {i a b : Nat} {L : List Nat} (ha : a ≠ i) (hb : b ≠ i) : (i :: L).idxOf a < (i :: L).idxOf b ↔ L.idxOf a < L.idxOf b := by
  rw [idx_ne ha, idx_ne hb]
  omega
theorem runAny {E : Env} {ops : List Oper} {fr : List Nat} {N : List (Nat × Nat)} {τ : List Nat} (hok : okT E ops fr N τ = true) : ∀ (fuel t : Nat) (listed : Array Bool) (rem : List Nat) (st : St), Left ops.length τ listed rem → rem.length ≤ fuel → (∀ a, listed.getD a false = true → ∀ d ∈ depsOf ops a, listed.getD d false = true) →
    (∀ p ∈ N, p.1 ∈ rem → p.2 ∈ rem → Agree τ (Region.linearise.go .any ops.toArray fuel t listed []) p) →
    Imp (runI E ops fr rem st) (runI E ops fr (Region.linearise.go .any ops.toArray fuel t listed []) st) := by
  obtain ⟨hpw, hlt, hall, hpair⟩ := okT_spec hok
  intro fuel
  induction fuel with
  | zero =>
    intro t listed rem st hl hf _ _
    have : rem = [] := List.length_eq_zero_iff.1 (by omega)
    subst this
    exact Imp.refl _
  | succ fuel ih =>
    intro t listed rem st hl hf hcl hN
    have hgo : Region.linearise.go .any ops.toArray (fuel + 1) t listed [] = (match (Region.ready .any ops.toArray listed)[t % (Region.ready .any ops.toArray listed).length]? with
      | some i => Region.linearise.go .any ops.toArray fuel (t / (Region.ready .any ops.toArray listed).length) (listed.setIfInBounds i true) [i]
      | none => [].reverse) := rfl
    rw [hgo] at hN ⊢
    cases hi : (Region.ready .any ops.toArray listed)[t % (Region.ready .any ops.toArray listed).length]? with
    | none =>
      have hnil : Region.ready .any ops.toArray listed = [] := by
        cases hr : Region.ready .any ops.toArray listed with
        | nil => rfl
        | cons x xs =>
          rw [hr] at hi
          have hlt : t % (x :: xs).length < (x :: xs).length := Nat.mod_lt _ (by simp)
          simp at hi
          simp at hlt
          omega
      cases rem with
      | nil => exact Imp.refl _
      | cons i rem =>
        exfalso
        have hin : i < ops.length := hl.lt i (by simp)
        have hy : ops[i]? = some ops[i] := List.getElem?_eq_getElem hin
        have hed := (hpair i _ hy).1
        have : i ∈ Region.ready .any ops.toArray listed := by
          simp only [Region.ready, List.mem_filter, List.mem_range, Bool.and_eq_true, Bool.not_eq_true']
          refine ⟨by simpa using hin, (hl.iff i hin).1 (by simp), ?_⟩
          have hy' : ops.toArray[i]? = some ops[i] := by simp [hin]
          simp only [hy', Option.map_some, Option.getD_some]
          rw [Array.all_eq_true_iff_forall_mem]
          intro e he
          by_cases hbe : Region.binds .any e = true
          case neg => simp [hbe]
          obtain ⟨hon, hidx⟩ := hed e he hbe
          have hnot : e.on ∉ i :: rem := by
            intro hm
            rcases List.mem_cons.1 hm with h | h
            · rw [h] at hidx; omega
            · have := (List.pairwise_cons.1 hl.sorted).1 _ h; omega
          have hne : ¬ listed.getD e.on true = false := fun h => hnot ((hl.iff e.on hon).2 h)
          have hlt' : e.on < listed.size := by rw [hl.size]; exact hon
          simp only [Array.getD_eq_getD_getElem?, Array.getElem?_eq_getElem hlt', Option.getD_some, Bool.not_eq_false] at hne ⊢
          simp [hne]
        rw [hnil] at this
        cases this
    | some i =>
      rw [hi] at hN
      simp only [] at hN ⊢
      rw [linearise_go_acc, List.reverse_singleton, List.singleton_append] at hN ⊢
      obtain ⟨hin, hun, hed⟩ := mem_ready (List.mem_of_getElem? hi)
      have hin' : i < ops.length := by simpa using hin
      have hx : ops[i]? = some ops[i] := List.getElem?_eq_getElem hin'
      have him : i ∈ rem := (hl.iff i hin').2 hun
      obtain ⟨pre, post, rfl⟩ := List.append_of_mem him
      have hso := List.pairwise_append.1 hl.sorted
      have n1 : i ∉ pre := fun h => absurd (hso.2.2 i h i (by simp)) (by omega)
      have n2 : i ∉ post := fun h => absurd ((List.pairwise_cons.1 hso.2.1).1 i h) (by omega)
      have hl' : Left ops.length τ (listed.setIfInBounds i true) (pre ++ post) := by
        refine ⟨?_, fun j hj => hl.lt j (by simp only [List.mem_append, List.mem_cons] at hj ⊢; rcases hj with h | h <;> simp [h]), fun j hj => ?_, by simpa using hl.size⟩
        · rw [List.pairwise_append]
          exact ⟨hso.1, (List.pairwise_cons.1 hso.2.1).2, fun a ha b hb => hso.2.2 a ha b (by simp [hb])⟩
        · have e1 := hl.iff j hj
          have hjs : j < listed.size := by rw [hl.size]; exact hj
          by_cases hji : j = i
          · subst hji
            simp [n1, n2, Array.getD_eq_getD_getElem?, hjs]
          · have : (listed.setIfInBounds i true).getD j true = listed.getD j true := by
              simp only [Array.getD_eq_getD_getElem?]
              rw [Array.getElem?_setIfInBounds_ne (fun h => hji h.symm)]
            rw [this, ← e1]
            simp [hji]
      have hdeps : ∀ d ∈ depsOf ops i, listed.getD d false = true := by
        intro d hd
        simp only [depsOf, hx, List.mem_map, List.mem_filter] at hd
        obtain ⟨e, ⟨he, hb⟩, rfl⟩ := hd
        exact hed ops[i] (by simp [hin']) e (by simpa using he) hb
      have hcl' : ∀ a, (listed.setIfInBounds i true).getD a false = true → ∀ d ∈ depsOf ops a, (listed.setIfInBounds i true).getD d false = true := by
        have up : ∀ d, listed.getD d false = true → (listed.setIfInBounds i true).getD d false = true := by
          intro d hd
          simp only [Array.getD_eq_getD_getElem?] at hd ⊢
          by_cases hdi : d = i
          · subst hdi
            have : d < listed.size := by rw [hl.size]; exact hin'
            simp [this]
          · rw [Array.getElem?_setIfInBounds_ne (fun h => hdi h.symm)]; exact hd
        intro a ha d hd
        by_cases hai : a = i
        · subst hai; exact up d (hdeps d hd)
        · refine up d (hcl a ?_ d hd)
          simp only [Array.getD_eq_getD_getElem?] at ha ⊢
          rwa [Array.getElem?_setIfInBounds_ne (fun h => hai h.symm)] at ha
      have hcomm : ∀ j ∈ pre, ∃ y, ops[j]? = some y ∧ commE E ops fr j y i ops[i] = true := by
        intro j hj
        have hjn : j < ops.length := hl.lt j (by simp [hj])
        have hjy : ops[j]? = some ops[j] := List.getElem?_eq_getElem hjn
        refine ⟨ops[j], hjy, ?_⟩
        have hlt : τ.idxOf j < τ.idxOf i := hso.2.2 j hj i (by simp)
        have hji : j ≠ i := by rintro rfl; exact n1 hj
        have e0 : ∀ L : List Nat, (i :: L).idxOf i < (i :: L).idxOf j := by
          intro L; rw [List.idxOf_cons_self, idx_ne hji]; omega
        rcases (hpair i _ hx).2 j _ hjy hlt with h | h | h | h | h
        · exfalso
          simp only [edged] at h
          obtain ⟨e, he, hb⟩ := Array.any_eq_true'.1 h
          simp only [Bool.and_eq_true, beq_iff_eq] at hb
          have hlst := hed ops[i] (by simp [hin']) e he hb.1
          rw [hb.2] at hlst
          have : listed.getD j true = false := (hl.iff j hjn).1 (by simp [hj])
          simp only [Array.getD_eq_getD_getElem?] at this hlst
          have hjs : j < listed.size := by rw [hl.size]; exact hjn
          rw [Array.getElem?_eq_getElem hjs] at this hlst
          simp at this hlst
          rw [this] at hlst
          cases hlst
        · exact h
        · exact absurd (e0 _) ((hN _ h (by simp [hj]) (by simp)).1 hlt)
        · exact absurd (e0 _) ((hN _ h (by simp) (by simp [hj])).2 hlt)
        · exfalso
          have hlst := anc_closed (C := fun a => listed.getD a false = true) hcl 6 (depsOf ops i) hdeps j (List.contains_iff_mem.1 h)
          have : listed.getD j true = false := (hl.iff j hjn).1 (by simp [hj])
          simp only [Array.getD_eq_getD_getElem?] at this hlst
          have hjs : j < listed.size := by rw [hl.size]; exact hjn
          rw [Array.getElem?_eq_getElem hjs] at this hlst
          simp at this hlst
          rw [this] at hlst
          cases hlst
      have hlen : (pre ++ post).length ≤ fuel := by simp only [List.length_append, List.length_cons] at hf ⊢; omega
      refine Imp.trans (move_front hx pre post hcomm st) (Imp.cons hx (ih _ _ _ _ hl' hlen hcl' ?_))
      · rintro ⟨a, b⟩ hp ha hb
        have hai : a ≠ i := by rintro rfl; simp [n1, n2] at ha
        have hbi : b ≠ i := by rintro rfl; simp [n1, n2] at hb
        have := hN (a, b) hp (by simp only [List.mem_append, List.mem_cons] at ha ⊢; rcases ha with h | h <;> simp [h]) (by simp only [List.mem_append, List.mem_cons] at hb ⊢; rcases hb with h | h <;> simp [h])
        simp only [Agree, idxOf_tail hai hbi, idxOf_tail hbi hai] at this
        exact this
omit [Gls] in
theorem cov_spec (L : List Nat) : ∀ (N : List (Nat × Nat)) (cs : List (List Nat)), cov N cs = true → ∃ τ ∈ cs, ∀ p ∈ N, Agree τ L p
  | [], cs, h => by
    cases cs with
    | nil => simp [cov] at h
    | cons a r => exact ⟨a, by simp, by simp⟩
  | (i, j) :: N, cs, h => by
    simp only [cov, Bool.and_eq_true] at h
    by_cases hij : L.idxOf j < L.idxOf i
    · obtain ⟨τ, hm, hN⟩ := cov_spec L N _ h.2
      simp only [List.mem_filter, decide_eq_true_eq] at hm
      refine ⟨τ, hm.1, fun p hp => ?_⟩
      rcases List.mem_cons.1 hp with rfl | hp
      · exact ⟨fun h' => absurd h' (by have := hm.2; simp only; omega), fun _ => by simp only; omega⟩
      · exact hN p hp
    · obtain ⟨τ, hm, hN⟩ := cov_spec L N _ h.1
      simp only [List.mem_filter, decide_eq_true_eq] at hm
      refine ⟨τ, hm.1, fun p hp => ?_⟩
      rcases List.mem_cons.1 hp with rfl | hp
      · exact ⟨fun _ => hij, fun h' => absurd h' (by have := hm.2; simp only; omega)⟩
      · exact hN p hp
omit [Gls] in
theorem range_filterMap (ops : List Oper) : (List.range ops.length).filterMap (ops[·]?) = ops := by
  have h : ∀ (l r : List Oper), (List.range' l.length r.length).filterMap ((l ++ r)[·]?) = r := by
    intro l r
    induction r generalizing l with
    | nil => rfl
    | cons a r ih =>
      rw [List.length_cons, List.range'_succ, List.filterMap_cons_some (by simp : (l ++ a :: r)[l.length]? = some a)]
      have := ih (l ++ [a])
      simp only [List.append_assoc, List.cons_append, List.nil_append, List.length_append, List.length_cons, List.length_nil] at this
      rw [this]
  have := h [] ops
  simpa [List.range_eq_range'] using this
theorem runI_runL {E : Env} {ops : List Oper} {fr : List Nat} : ∀ (l : List Nat) (st : St), ((runI E ops fr l st).1 → (runL E ops (l.filterMap (ops[·]?)) st).1) ∧ (runI E ops fr l st).2 = (runL E ops (l.filterMap (ops[·]?)) st).2
  | [], st => ⟨fun h => h, rfl⟩
  | i :: l, st => by
    rw [runI]
    cases ho : ops[i]? with
    | none => rw [List.filterMap_cons_none ho]; exact runI_runL l st
    | some o =>
      rw [List.filterMap_cons_some ho, runL_cons]
      have := runI_runL (E := E) (ops := ops) (fr := fr) l (step E ops o st).2
      exact ⟨fun h => ⟨h.1.2, this.1 h.2⟩, this.2⟩
theorem runL_runI {E : Env} {ops : List Oper} : ∀ (l : List Nat) (st : St), (runL E ops (l.filterMap (ops[·]?)) st).1 → (runI E ops [] l st).1
  | [], st, h => h
  | i :: l, st, h => by
    rw [runI]
    cases ho : ops[i]? with
    | none => rw [List.filterMap_cons_none ho] at h; exact runL_runI l st h
    | some o =>
      rw [List.filterMap_cons_some ho, runL_cons] at h
      exact ⟨⟨⟨fun h => by simp at h, fun h => by simp at h, fun h => by simp at h, fun h => by simp at h⟩, h.1⟩, runL_runI l _ h.2⟩
theorem runs_mem {E : Env} {ops : List Oper} {fr : List Nat} {K : St → Prop} {st : St} : ∀ {cs : List (List Nat)}, runs E ops fr cs st K → ∀ τ ∈ cs, (runI E ops fr τ st).1 ∧ K (runI E ops fr τ st).2
  | [], _, τ, h => by cases h
  | c :: cs, hr, τ, h => by
    rcases List.mem_cons.1 h with rfl | h
    · exact hr.1
    · exact runs_mem hr.2 τ h
omit [Gls] in
theorem wpOpsIn_of_list {rd : Option Nat} {n : Nat} {P : Program} {ops : Array Oper} {Q : Exit → Act → World → Prop} : ∀ (l : List Nat) (a : Act) (w : World), wpListIn (wideR rd) n P ops Q (l.filterMap (ops[·]?)) a w → wpOpsIn (wideR rd) n P ops Q l a w
  | [], a, w, h => h
  | i :: l, a, w, h => by
    unfold wpOpsIn
    cases ho : ops[i]? with
    | none =>
      rw [List.filterMap_cons_none ho] at h
      exact wpOpsIn_of_list l a w h
    | some o =>
      rw [List.filterMap_cons_some ho] at h
      unfold wpListIn at h
      have e : ∀ a w, wpListIn (wideR rd) n P ops Q (l.filterMap (ops[·]?)) a w → wpOpsIn (wideR rd) n P ops Q l a w := wpOpsIn_of_list l
      simp only
      split
      · rename_i hw
        rw [if_pos hw] at h
        obtain ⟨h1, h2⟩ := h
        refine ⟨h1, ?_⟩
        revert h2
        cases (o.semAt (wideR rd).round a.eval).run P w with
        | ok x w' =>
          cases x with
          | value v => exact e _ _
          | skip => exact e _ _
          | defer d => exact e _ _
          | enter f args => exact fun h => ⟨h.1, h.2.mono fun x w' hx => by cases x <;> first | exact e _ _ hx | exact hx⟩
          | row row args => exact fun h => ⟨h.1, h.2.mono fun v w' hx => e _ _ hx⟩
          | round l f tmps assign body => exact fun h => ⟨h.1, h.2.mono fun x w' hx => by cases x <;> first | exact e _ _ hx | exact hx⟩
          | _ => exact id
        | halt x w' => cases x <;> exact id
      · rename_i hw
        rw [if_neg hw] at h
        exact ⟨h.1, e _ _ h.2⟩
theorem drawK {E : Env} (hT : TblOK E) {K : Fr → Hp → Prop} {rd : Option Nat} (hKK : KOK E K rd) {n : Nat} {ops : Array Oper} {id : Nat} {Q : Exit → Act → World → Prop} {st : St} {a : Act} {w : World} {fr : List Nat} {cs : List (List Nat)} (hok : okM E ops.toList fr cs = true) (hR : R2 K E.nt st a w) (hr : runs E ops.toList fr cs st fun st' => ∀ a' w', R2 K E.nt st' a' w' → Q .normal a' w') : (Code.region id ops true).wpIn (wideR rd) n E.P Q a w := by
  refine wpIn_region_draw fun t => ?_
  refine wpOpsIn_of_list _ _ _ ?_
  have hR' : R2 K E.nt st a { w with drawn := w.drawn + 1 } := by
    obtain ⟨F, hF, ⟨A, X, hI, ht, hmk⟩, h1⟩ := hR
    obtain ⟨hl, hI'⟩ := hI.drew
    exact ⟨F, hF, ⟨A, X, hI', fun k => ⟨fun h => ((ht k).1 h).mono hl (Xle.refl _), (ht k).2⟩, hmk.carry (.of hl (Xle.refl X))⟩, h1⟩
  simp only [okM, Bool.and_eq_true, List.all_eq_true, decide_eq_true_eq] at hok
  obtain ⟨⟨hm, hok1⟩, hok2⟩ := hok
  have hok := And.intro hok1 hok2
  have fin : ∀ t, wpListIn (wideR rd) n E.P ops Q ((Region.linearise .any ops t).filterMap (ops[·]?)) a { w with drawn := w.drawn + 1 } := by
    intro t
    obtain ⟨τ, hτ, hag⟩ := cov_spec (Region.linearise .any ops t) _ _ hok.2
    have hτok := (hok.1 τ hτ).2
    obtain ⟨hpw, hlt, hall, -⟩ := okT_spec hτok
    have hL : Left ops.toList.length τ (Array.replicate ops.size false) τ := by
      refine ⟨hpw, hlt, fun i hi => ?_, by simp⟩
      have : i < ops.size := by simpa using hi
      simp [hall i hi, Array.getD_eq_getD_getElem?, this]
    have hlen : τ.length ≤ ops.size := by simpa using (hok.1 τ hτ).1
    have hs : Imp (runI E ops.toList fr τ st) (runI E ops.toList fr (Region.linearise .any ops t) st) := by
      have := runAny hτok ops.size t (Array.replicate ops.size false) τ st hL hlen (fun a ha => by simp [Array.getD_eq_getD_getElem?, Array.getElem?_replicate] at ha; split at ha <;> simp at ha) (fun p hp _ _ => by simpa [Region.linearise] using hag p hp)
      simpa [Region.linearise] using this
    obtain ⟨hc, hK⟩ := runs_mem hr τ hτ
    obtain ⟨hc', he⟩ := hs hc
    have hl := runI_runL (E := E) (ops := ops.toList) (fr := fr) (Region.linearise .any ops t) st
    have := runK (Q := Q) (n := n) hT hKK (ops := ops.toList) ((Region.linearise .any ops t).filterMap (ops.toList[·]?)) st a _ hR' (hl.1 hc') (fun a' w' h => hK a' w' (by rw [he, hl.2]; exact h))
    simpa using this
  unfold Region.schedule
  rw [hm]
  exact fin _
def drawsOk (E : Env) (alt : Alts) : Code → Bool
  | .region id ops true => match alt.lookup id with
    | none => okM E ops.toList [] [List.range ops.toList.length]
    | some (fr, cs) => okM E ops.toList fr cs
  | .seq a b => drawsOk E alt a && drawsOk E alt b
  | .cond _ a b => drawsOk E alt a && drawsOk E alt b
  | .block _ a => drawsOk E alt a
  | .loop a => drawsOk E alt a
  | .rangeFunc _ _ a b => drawsOk E alt a && drawsOk E alt b
  | _ => true
end Go.Sx
