/- One step's soundness, a region's, a piece of code's, a function's. No conditions. -/
import Derived.Test.YtomgmojjdgiieaaGreatP12
set_option linter.unusedSimpArgs false
set_option linter.unusedVariables false
set_option linter.unusedSectionVars false
namespace Go.Sx
open Go.RowKit
variable [Gls]
section
variable {F : Fr} {w : World} {A : Nat → Prop} {X : Refs} {h : Hp}
omit [Gls] in
theorem wp_val {P : Program} {o : Oper} {a : Act} {w w' : World} {next : Act → World → Prop} {Q : Exit → Act → World → Prop} {v : Value} (hr : (execOp a.eval o).run P w = .ok (.value v) w') (hn : next (a.put o.dst v) w') : o.wp P a w next Q := by
  unfold Oper.wp; rw [hr]; exact hn
omit [Gls] in
theorem run_v {P : Program} {s : Sem Value} {w w' : World} {v : Value} (h : s.run P w = .ok v w') : (do pure (.value (← s)) : Sem Next).run P w = .ok (.value v) w' := by
  simp only [Sem.run_bind, h, Result.andThen_ok, Sem.run_pure]
omit [Gls] in
theorem foldMax_sound {P : Program} {k : IntKind} : ∀ (xs : List V) (us : List Value) (m : Int), xs.length = us.length → (∀ (i : Nat) (x : V) (u : Value), xs[i]? = some x → us[i]? = some u → RV w A X x u) → (foldMax k true m xs).1 →
    (us.foldlM Builtin.max2 (.int k m)).run P w = .ok (.int k (foldMax k true m xs).2) w
  | [], [], m, _, _, _ => rfl
  | [], _ :: _, _, hl, _, _ => by simp at hl
  | _ :: _, [], _, hl, _, _ => by simp at hl
  | x :: xs, u :: us, m, hl, hx, hc => by
    have h0 := hx 0 x u rfl rfl
    cases x <;> simp only [foldMax] at hc ⊢
    case int k' n =>
      obtain ⟨rfl, hc⟩ := hc
      rw [h0.int_inv]
      simp only [List.foldlM_cons, Builtin.max2, Sem.run_bind, Sem.run_pure, Result.andThen_ok]
      simp only [if_true] at hc
      exact foldMax_sound xs us _ (by simpa using hl) (fun i x u hi hu => hx (i + 1) x u (by simpa using hi) (by simpa using hu)) hc
omit [Gls] in
theorem foldMin_sound {P : Program} {k : IntKind} : ∀ (xs : List V) (us : List Value) (m : Int), xs.length = us.length → (∀ (i : Nat) (x : V) (u : Value), xs[i]? = some x → us[i]? = some u → RV w A X x u) → (foldMax k false m xs).1 →
    (us.foldlM Builtin.min2 (.int k m)).run P w = .ok (.int k (foldMax k false m xs).2) w
  | [], [], m, _, _, _ => rfl
  | [], _ :: _, _, hl, _, _ => by simp at hl
  | _ :: _, [], _, hl, _, _ => by simp at hl
  | x :: xs, u :: us, m, hl, hx, hc => by
    have h0 := hx 0 x u rfl rfl
    cases x <;> simp only [foldMax] at hc ⊢
    case int k' n =>
      obtain ⟨rfl, hc⟩ := hc
      rw [h0.int_inv]
      simp only [List.foldlM_cons, Builtin.min2, Sem.run_bind, Sem.run_pure, Result.andThen_ok]
      simp only [Bool.false_eq_true, if_false] at hc
      exact foldMin_sound xs us _ (by simpa using hl) (fun i x u hi hu => hx (i + 1) x u (by simpa using hi) (by simpa using hu)) hc
theorem allv_mem {st : St} : ∀ {l : List Operand}, allv st l → ∀ x ∈ l, (ev st x).1 = true
  | [], _, x, hx => by simp at hx
  | y :: l, hv, x, hx => by
    rcases List.mem_cons.1 hx with rfl | hx
    · exact hv.1
    · exact allv_mem hv.2 x hx
theorem map_get {st : St} {a : Act} (hv : ∀ x, (ev st x).1 = true → RV w A X (ev2 st x) (a.eval x)) {l : List Operand} (hl : allv st l) :
    ∀ (i : Nat) (x : V) (u : Value), (l.map (ev2 st))[i]? = some x → (l.map a.eval)[i]? = some u → RV w A X x u := by
  intro i x u hx hu
  rw [List.getElem?_map] at hx hu
  cases hi : l[i]? with
  | none => simp [hi] at hx
  | some o => simp [hi] at hx hu; subst hx hu; exact hv o (allv_mem hl o (List.mem_of_getElem? hi))
theorem Inv.self (hI : Inv F w A X h) : Inv ⟨w, A, X, ownM X h⟩ w A X h := by
  refine { gl := hI.gl, abd := hI.abd, aold := fun b _ hA => hA, akeep := fun b _ hA _ => hA, os := rfl, tape := rfl, output := rfl, size := Nat.le_refl _, same := fun b _ _ => rfl, xle := Xle.refl X, nb := hI.nb, mi := ⟨hI.mi.mb, fun s i m hg => ⟨(hI.mi.mp s i m hg).hK, (hI.mi.mp s i m hg).ob, (hI.mi.mp s i m hg).own.1, .inl (.inr ⟨s, i, m, hg, rfl⟩)⟩, hI.mi.inj⟩, inj := hI.inj, blk := ?_ }
  intro s i B hg
  have ho := hI.blk s i B hg
  refine { hN := ho.hN, hz := ho.hz, hlen := ho.hlen, rows := ho.rows, mem := ?_ }
  rcases ho.mem with hm | ⟨arr, cap, g1, g2, g3, g4, g5, g6, g7, g8⟩
  · exact .inl hm
  · exact .inr ⟨arr, cap, g1, g2, g3, g4, g5, g6, g7, fun hf => ⟨(g8 hf).1, .inl (.inl ⟨s, i, B, hg, hf, by unfold Hd.real; rw [g2]; simp, rfl⟩)⟩⟩
theorem call_sound {E : Env} (hT : TblOK E) (hyl : E.yl = none) {dst : Option Tmp} {c : Call} {ty : TypeId} {pos : String} {after : Array Edge} {guard : Option (Nat × Bool)} {a : Act} {st : St} {d : Nat} {next : Act → World → Prop} {Q : Exit → Act → World → Prop} (hI : Inv F w A X h)
    (hv : ∀ x, (ev st x).1 = true → RV w A X (ev2 st x) (a.eval x)) (hok : valid st (.call c)) (hc : (sem E d (.call c) (ev2 st) h).c)
    (hK : ∀ v w' A' X', Later w A w' A' → Xle X X' → RV w' A' X' (sem E d (.call c) (ev2 st) h).v v → Inv F w' A' X' (sem E d (.call c) (ev2 st) h).h → next (a.put dst v) w') :
    (⟨dst, .call c, ty, pos, after, guard⟩ : Oper).wp E.P a w next Q := by
  obtain ⟨callee, args, ats⟩ := c
  have same : ∀ v, RV w A X (sem E d (.call ⟨callee, args, ats⟩) (ev2 st) h).v v → (sem E d (.call ⟨callee, args, ats⟩) (ev2 st) h).h = h → next (a.put dst v) w := fun v h1 h2 => hK v w A X (Later.refl w A) (Xle.refl X) h1 (by rw [h2]; exact hI)
  cases callee with
  | invoke r m => simp only [sem, bad] at hc
  | builtin b =>
    simp only [valid] at hok
    have hmap := map_get hv hok
    cases b <;> simp only [sem, bad] at hc hK same
    case len =>
      cases hargs : args.toList with
      | nil => simp [hargs] at hc
      | cons x r =>
        cases r with
        | cons => simp [hargs] at hc
        | nil =>
          cases hts : ats.toList with
          | nil => simp [hargs, hts] at hc
          | cons T r2 =>
            cases r2 with
            | cons => simp [hargs, hts] at hc
            | nil =>
              simp only [hargs, hts] at hc same
              have hx : RV w A X (ev2 st x) (a.eval x) := hv x (allv_mem hok x (by rw [hargs]; simp))
              cases hl : (ev2 st x).len with
              | none => simp [sLen, hl, bad] at hc
              | some n =>
                simp only [sLen, hl] at hc same
                obtain ⟨e, hu⟩ := sl_und hc
                obtain ⟨ba, cp, hval⟩ := hx.len_inv hl
                have ha : args = #[x] := by rw [← Array.toArray_toList (xs := args), hargs]
                have ht : ats = #[T] := by rw [← Array.toArray_toList (xs := ats), hts]
                subst ha ht
                refine wp_val (v := .int .i64 n) (w' := w) ?_ (same _ (.pure (.int _ _)) trivial)
                simp [execOp, resolve, invoke, builtin, Builtin.len_, hval, run_underlying hu, goInt]
    case max =>
      cases hargs : args.toList.map (ev2 st) with
      | nil => simp [hargs, sMax, bad] at hc
      | cons x r =>
        rw [hargs] at hc same
        cases x <;> simp only [sMax, bad] at hc same
        case int k m =>
          cases hal : args.toList with
          | nil => simp [hal] at hargs
          | cons o os =>
            rw [hal] at hargs hmap
            simp only [List.map_cons, List.cons.injEq] at hargs
            have h0 := hmap 0 (ev2 st o) (a.eval o) (by simp) (by simp)
            rw [hargs.1] at h0
            have hf := foldMax_sound (P := E.P) (w := w) (A := A) (X := X) (k := k) r (os.map a.eval) m (by rw [← hargs.2]; simp) (fun i x u hi hu => hmap (i + 1) x u (by rw [← hargs.2] at hi; simpa using hi) (by simpa using hu)) hc
            refine wp_val (v := .int k (foldMax k true m r).2) (w' := w) ?_ (same _ (.pure (.int _ _)) trivial)
            have ha : (args.map a.eval).toList = a.eval o :: os.map a.eval := by rw [Array.toList_map, hal]; rfl
            simp only [execOp, resolve, invoke, builtin, Builtin.max_, Sem.run_bind, Sem.run_pure, Result.andThen_ok, ha, h0.int_inv, hf]
    case min =>
      cases hargs : args.toList.map (ev2 st) with
      | nil => simp [hargs, sMax, bad] at hc
      | cons x r =>
        rw [hargs] at hc same
        cases x <;> simp only [sMax, bad] at hc same
        case int k m =>
          cases hal : args.toList with
          | nil => simp [hal] at hargs
          | cons o os =>
            rw [hal] at hargs hmap
            simp only [List.map_cons, List.cons.injEq] at hargs
            have h0 := hmap 0 (ev2 st o) (a.eval o) (by simp) (by simp)
            rw [hargs.1] at h0
            have hf := foldMin_sound (P := E.P) (w := w) (A := A) (X := X) (k := k) r (os.map a.eval) m (by rw [← hargs.2]; simp) (fun i x u hi hu => hmap (i + 1) x u (by rw [← hargs.2] at hi; simpa using hi) (by simpa using hu)) hc
            refine wp_val (v := .int k (foldMax k false m r).2) (w' := w) ?_ (same _ (.pure (.int _ _)) trivial)
            have ha : (args.map a.eval).toList = a.eval o :: os.map a.eval := by rw [Array.toList_map, hal]; rfl
            simp only [execOp, resolve, invoke, builtin, Builtin.min_, Sem.run_bind, Sem.run_pure, Result.andThen_ok, ha, h0.int_inv, hf]
    case append =>
      split at hc
      · rename_i s x T T2 hargs hts
        by_cases hTT : T2 = T
        · subst hTT
          simp only [hargs, hts, if_true] at hc hK
          have ha : args = #[s, x] := by rw [← Array.toArray_toList (xs := args), hargs]
          have ht : ats = #[T2, T2] := by rw [← Array.toArray_toList (xs := ats), hts]
          subst ha ht
          have hs : RV w A X (ev2 st s) (a.eval s) := hv s (allv_mem hok s (by simp))
          have hx : RV w A X (ev2 st x) (a.eval x) := hv x (allv_mem hok x (by simp))
          obtain ⟨r, w', A', X', h1, h2, h3, h4, h5⟩ := appendV_sound (E := E) (ty := ty) hI hs hx hc
          refine wp_val (v := r) (w' := w') ?_ (hK r w' A' X' h2 h3 h5 h4)
          simp only [execOp, resolve, invoke, builtin, Sem.run_bind, Sem.run_pure, Result.andThen_ok, List.map_toArray, List.map_cons, List.map_nil, h1]
        · simp only [hargs, hts, if_neg hTT] at hc hK
          have ha : args = #[s, x] := by rw [← Array.toArray_toList (xs := args), hargs]
          have ht : ats = #[T, T2] := by rw [← Array.toArray_toList (xs := ats), hts]
          subst ha ht
          have hs : RV w A X (ev2 st s) (a.eval s) := hv s (allv_mem hok s (by simp))
          have hx : RV w A X (ev2 st x) (a.eval x) := hv x (allv_mem hok x (by simp))
          obtain ⟨r, w', A', X', h1, h2, h3, h4, h5⟩ := appendZ_sound (P := E.P) (ty := ty) hI hs hx hc
          refine wp_val (v := r) (w' := w') ?_ (hK r w' A' X' h2 h3 h5 h4)
          simp only [execOp, resolve, invoke, builtin, Sem.run_bind, Sem.run_pure, Result.andThen_ok, List.map_toArray, List.map_cons, List.map_nil, h1]
      · exact hc.elim
    case copy =>
      split at hc
      · rename_i s x T T2 hargs hts
        simp only [hargs, hts] at hc hK
        have ha : args = #[s, x] := by rw [← Array.toArray_toList (xs := args), hargs]
        have ht : ats = #[T, T2] := by rw [← Array.toArray_toList (xs := ats), hts]
        subst ha ht
        have hs : RV w A X (ev2 st s) (a.eval s) := hv s (allv_mem hok s (by simp))
        have hx : RV w A X (ev2 st x) (a.eval x) := hv x (allv_mem hok x (by simp))
        obtain ⟨r, w', h1, h2, h3, h4⟩ := sCopy_sound (P := E.P) (T2 := T2) (ty := ty) hI hs hx hc
        refine wp_val (v := r) (w' := w') ?_ (hK r w' A X h2 (Xle.refl X) h4 h3)
        simp only [execOp, resolve, invoke, builtin, Sem.run_bind, Sem.run_pure, Result.andThen_ok, List.map_toArray, List.map_cons, List.map_nil, h1]
      · exact hc.elim
    case clear =>
      split at hc
      · rename_i x T hargs hts
        simp only [hargs, hts] at hc hK
        have ha : args = #[x] := by rw [← Array.toArray_toList (xs := args), hargs]
        have ht : ats = #[T] := by rw [← Array.toArray_toList (xs := ats), hts]
        subst ha ht
        have hx : RV w A X (ev2 st x) (a.eval x) := hv x (allv_mem hok x (by simp))
        obtain ⟨r, w', h1, h2, h3, h4⟩ := sClear_sound (P := E.P) (ty := ty) hI hx hc
        refine wp_val (v := r) (w' := w') ?_ (hK r w' A X h2 (Xle.refl X) h4 h3)
        simp only [execOp, resolve, invoke, builtin, Sem.run_bind, Sem.run_pure, Result.andThen_ok, List.map_toArray, List.map_cons, List.map_nil, h1]
      · exact hc.elim
    case cap =>
      split at hc
      · rename_i x T hargs hts
        simp only [hargs, hts] at hc same
        have ha : args = #[x] := by rw [← Array.toArray_toList (xs := args), hargs]
        subst ha
        have hx : RV w A X (ev2 st x) (a.eval x) := hv x (allv_mem hok x (by simp))
        cases hxv : ev2 st x <;> simp only [hxv, sCap, bad] at hc same
        rw [hxv] at hx
        obtain ⟨e, hu⟩ := sl_und hc
        have ht : ats = #[T] := by rw [← Array.toArray_toList (xs := ats), hts]
        subst ht
        refine wp_val (v := .int .i64 0) (w' := w) ?_ (same _ (.pure (.int _ _)) trivial)
        simp [execOp, resolve, invoke, builtin, Builtin.cap_, hx.nil_inv, run_underlying hu, goInt]
      · exact hc.elim
    all_goals exact hc.elim
  | value f =>
    simp only [valid] at hok
    clear same
    simp only [sem] at hc hK
    obtain ⟨A1, hL1, hI1⟩ := hI.preZ E d (ev2 st f)
    replace hv : ∀ x, (ev st x).1 = true → RV w A1 X (ev2 st x) (a.eval x) := fun x hx => (hv x hx).mono hL1 (Xle.refl X)
    replace hK := fun v w' A' X' (hL : Later w A1 w' A') => hK v w' A' X' (hL1.trans hL)
    clear hI hL1
    generalize preZ E d (ev2 st f) h = h at *
    revert A1
    intro A hv hI hK
    have hf := hv f hok.1
    cases hfv : ev2 st f <;> simp only [hfv, sCall, bad, hyl] at hc hK
    case fn g caps =>
      rw [hfv] at hf
      obtain ⟨us, hfu, hl, hcap⟩ := hf.fn_inv
      have hmap := map_get hv hok.2
      have hsz : ((#[] : Array Value) ++ args.map a.eval ++ us).size = (args.toList.map (ev2 st) ++ caps).length := by simp [hl]
      have hargs : ∀ (i : Nat) (c : V), (args.toList.map (ev2 st) ++ caps)[i]? = some c → RV w A X c (((#[] : Array Value) ++ args.map a.eval ++ us).getD i und) := by
        intro i c hi
        rw [List.getElem?_append] at hi
        split at hi
        · rename_i hlt
          have hlt' : i < args.size := by simpa using hlt
          have e : ((#[] : Array Value) ++ args.map a.eval ++ us).getD i und = a.eval args[i] := by
            simp [Array.getD_eq_getD_getElem?, Array.getElem?_append, hlt']
          rw [e]
          exact hmap i c _ hi (by simp [hlt'])
        · rename_i hge
          have hge' : args.size ≤ i := by simpa using hge
          have e : ((#[] : Array Value) ++ args.map a.eval ++ us).getD i und = us.getD (i - args.size) und := by
            simp only [Array.getD_eq_getD_getElem?, Array.empty_append]
            rw [Array.getElem?_append, if_neg (by simp; omega)]
            simp
          rw [e]
          have := hcap (i - args.size) c (by simpa using hi)
          exact this
      have hrun : ∀ S, FnOK E.P g S → (execOp a.eval ⟨dst, .call ⟨.value f, args, ats⟩, ty, pos, after, guard⟩).run E.P w = .ok (.enter g ((#[] : Array Value) ++ args.map a.eval ++ us)) w := by
        intro S hS
        simp only [execOp, resolve, hfu, Deferred.ofValue, Sem.run_bind, Sem.run_pure, Result.andThen_ok, invoke, hS.call]
      unfold callF at hc hK
      cases hS : E.fn g with
      | none => simp [hS, bad] at hc
      | some S =>
        have hfn := hT g S hS
        cases S with
        | pure S =>
          simp only [hS] at hc hK
          obtain ⟨c1, c2, c3, c4, c5⟩ := hc
          unfold Oper.wp
          rw [hrun _ hfn]
          simp only [Oper.upon]
          refine (call_pure (hfn.pure S rfl) hI hsz hargs c1 c2 c3 c4 c5).mono fun e w' ⟨v, he, hL, hI', hv'⟩ => ?_
          subst he
          exact hK v w' A X hL (Xle.refl X) hv' hI'
        | iter S => simp only [hS, hyl, bad] at hc
        | heap S =>
          simp only [hS] at hc hK
          unfold Oper.wp
          rw [hrun _ hfn]
          simp only [Oper.upon]
          have hI0 : Inv ⟨w, A, X, ownM X h⟩ w A X h := hI.self
          refine (hfn.heap S rfl _ h hc w A X _ hI0 hsz hargs).mono fun e w' ⟨v, A', X', he, hI', hv'⟩ => ?_
          subst he
          obtain ⟨k1, k2, k3⟩ := hI.back hI'
          exact hK v w' A' X' k1 k2 hv' k3
theorem op_sound {E : Env} (hT : TblOK E) (hyl : E.yl = none) {o : Oper} {a : Act} {st : St} {d : Nat} {next : Act → World → Prop} {Q : Exit → Act → World → Prop} (hI : Inv F w A X h)
    (hv : ∀ x, (ev st x).1 = true → RV w A X (ev2 st x) (a.eval x)) (hok : valid st o.op) (hc : (sem E d o.op (ev2 st) h).c)
    (hK : ∀ v w' A' X', Later w A w' A' → Xle X X' → RV w' A' X' (sem E d o.op (ev2 st) h).v v → Inv F w' A' X' (sem E d o.op (ev2 st) h).h → next (a.put o.dst v) w') : o.wp E.P a w next Q := by
  obtain ⟨dst, op, ty, pos, after, guard⟩ := o
  have same : ∀ v, RV w A X (sem E d op (ev2 st) h).v v → (sem E d op (ev2 st) h).h = h → next (a.put dst v) w := fun v h1 h2 => hK v w A X (Later.refl w A) (Xle.refl X) h1 (by rw [h2]; exact hI)
  simp only at hok hc hK ⊢
  by_cases hcall : ∃ c, op = .call c
  · obtain ⟨c, rfl⟩ := hcall
    exact call_sound hT hyl hI hv hok hc hK
  cases op <;> simp only [sem, bad] at hc hK same
  case move x => exact wp_val (v := a.eval x) rfl (same _ (hv x hok.1) trivial)
  case assign x => exact wp_val (v := a.eval x) rfl (same _ (hv x hok.1) trivial)
  case pick c x y =>
    cases hcv : ev2 st c <;> simp only [hcv, sPick, bad] at hc same
    case bool t =>
      have h1 := hv c hok.1
      rw [hcv] at h1
      have h2 := vite_sound (w := w) (A := A) (X := X) (b := t) (fun ht => hv x (hok.2.1 (by rw [hcv, ht]))) (fun hf => hv y (hok.2.2 (by rw [hcv, hf])))
      refine wp_val (v := if t then a.eval x else a.eval y) (w' := w) ?_ (same _ h2 trivial)
      simp only [execOp, h1.bool_inv, asBool, Sem.run_bind, Sem.run_pure, Result.andThen_ok]
  case alloc T =>
    obtain ⟨r, w', A', X', h1, h2, h3, h4, h5⟩ := sAlloc_sound hI hc
    exact wp_val (run_v h1) (hK r w' A' X' h2 h3 h5 h4)
  case box T x =>
    obtain ⟨r, w', A', X', h1, h2, h3, h4, h5⟩ := sBox_sound hI (hv x hok.1) hc
    exact wp_val (run_v h1) (hK r w' A' X' h2 h3 h5 h4)
  case build T parts =>
    obtain ⟨r, h1, h2⟩ := sBuild_sound (P := E.P) (w := w) (A := A) (X := X) (ρ := ev2 st) (ρ' := a.eval) parts (fun p hp => hv p.2 (allv_mem hok p.2 (by simp only [Op.operands]; exact List.mem_map.2 ⟨p, hp, rfl⟩))) hc
    refine wp_val (run_v h1) (same r h2 ?_)
    unfold sBuild at hc ⊢
    split <;> simp_all [bad]
  case buildSlice T n parts =>
    by_cases hown : E.own.contains (d + 500000) = true
    · rw [if_pos hown] at hc hK
      obtain ⟨r, w', A', X', h1, h2, h3, h4, h5⟩ := sBuildE_sound (P := E.P) (ρ := ev2 st) (ρ' := a.eval) parts hI hc
      exact wp_val (run_v h1) (hK r w' A' X' h2 h3 h5 h4)
    rw [if_neg hown] at hc hK
    obtain ⟨r, w', A', X', h1, h2, h3, h4, h5⟩ := sBuildSlice_sound (P := E.P) (ρ := ev2 st) (ρ' := a.eval) parts hI (fun p hp => hv p.2 (allv_mem hok p.2 (by simp only [Op.operands]; exact List.mem_map.2 ⟨p, hp, rfl⟩))) hc
    exact wp_val (run_v h1) (hK r w' A' X' h2 h3 h5 h4)
  case load T x =>
    obtain ⟨r, h1, h2⟩ := sLoad_sound hI (hv x hok.1) hc
    refine wp_val (run_v h1) (same r h2 ?_)
    unfold sLoad
    split
    · rfl
    · split <;> rfl
    · rfl
  case store T x y =>
    obtain ⟨w', h1, h2, h3⟩ := sStore_sound hI (hv x hok.1) (hv y hok.2.1) hc
    have hv' : (sStore E.P T (ev2 st x) (ev2 st y) h).v = .top := by
      unfold sStore
      split
      · split <;> rfl
      · rfl
    have := hK undef w' A X h2 (Xle.refl X) (by rw [hv']; exact .pure (.top _)) h3
    unfold Oper.wp execOp
    simp only [Sem.run_bind, h1, Result.andThen_ok, Sem.run_pure, Oper.upon]
    exact this
  case nilCheck x =>
    obtain ⟨⟨ad, h1⟩, h2⟩ := sNil_sound (hv x hok.1) hc
    refine wp_val (v := a.eval x) (w' := w) (by simp only [execOp, h1]; rfl) (same _ h2 ?_)
    unfold sNil; split <;> rfl
  case binOp op T x y yT =>
    obtain ⟨r, h1, h2⟩ := binV_sound (x := x) (y := y) (hv x hok.1) (hv y hok.2.1) hc
    exact wp_val (run_v h1) (same r h2 trivial)
  case unOp op T x =>
    have h1 := hv x hok.1
    unfold sUn at hc
    split at hc
    · rename_i b hx
      rw [hx] at h1
      simp only [hx, sUn] at same
      refine wp_val (run_v (v := .bool !b) (w' := w) ?_) (same _ (.pure (.bool _)) trivial)
      rw [h1.bool_inv]; rfl
    · rename_i k n hx
      rw [hx] at h1
      simp only [hx, sUn] at same
      refine wp_val (run_v (v := .int k (k.wrap (0 - n))) (w' := w) ?_) (same _ (.pure (.int _ _)) trivial)
      rw [h1.int_inv]; rfl
    · exact hc.elim
  case convert S D x =>
    have h1 := hv x hok.1
    unfold sConv at hc
    split at hc
    · rename_i k0 n k1 k hx hS0 hD0
      have hS : E.P.underlying S = some (.int k1) := by unfold intK at hS0; split at hS0 <;> simp_all
      have hD : E.P.underlying D = some (.int k) := by unfold intK at hD0; split at hD0 <;> simp_all
      rw [hx] at h1
      simp only [hx, hS0, hD0, sConv] at same
      refine wp_val (run_v (v := .int k (k.wrap n)) (w' := w) ?_) (same _ (.pure (.int _ _)) trivial)
      rw [h1.int_inv]
      simp [convert, run_underlying hS, run_underlying hD, Conv.intToInt]
    · exact hc.elim
  case makeFunc fn first caps =>
    cases fn <;> simp only at hc same
    case func f =>
      cases hf : first.isEmpty with
      | false => simp [hf] at hc
      | true =>
        simp only [hf, if_true] at same
        have h0 : first = #[] := by simpa using hf
        subst h0
        refine wp_val (v := .func (.func f) #[] (caps.map a.eval)) (w' := w) (by simp [execOp, Instr.makeFunc]) (same _ (.fn f _ _ (by simp) fun i c hi => ?_) trivial)
        rw [List.getElem?_map] at hi
        cases hx : caps.toList[i]? with
        | none => simp [hx] at hi
        | some x =>
          simp [hx] at hi; subst hi
          have hg : (caps.map a.eval).getD i und = a.eval x := by
            have : caps[i]? = some x := by simpa using hx
            simp [Array.getD_eq_getD_getElem?, this]
          rw [hg]
          exact hv x (allv_mem hok x (by simp only [Op.operands]; simp; exact Array.mem_of_getElem? (by simpa using hx)))
    all_goals exact hc.elim
  case makeSlice T l c =>
    obtain ⟨r, w', A', X', h1, h2, h3, h4, h5⟩ := sMakeSlice_sound hI (hv l hok.1) (hv c hok.2.1) hc
    exact wp_val (run_v h1) (hK r w' A' X' h2 h3 h5 h4)
  case slice T x lo hi mx =>
    have hopt : ∀ (y : Option Operand), (∀ z, y = some z → (ev st z).1 = true) → ∀ r, optI (ev2 st) y = some r → OptR r (y.map a.eval) := by
      intro y hy r hr
      cases y with
      | none => simp [optI] at hr; subst hr; trivial
      | some z =>
        simp only [optI] at hr
        cases hz : ev2 st z <;> simp [hz, asI] at hr
        subst hr
        have := hv z (hy z rfl)
        rw [hz] at this
        exact ⟨_, this.int_inv⟩
    have hall := allv_mem hok
    by_cases hown : E.own.contains d = true
    · rw [if_pos hown] at hc hK
      obtain ⟨r, X', h1, h2, h3, h4⟩ := sCut_sound hI (hv x (hall x (by simp [Op.operands]))) (hopt lo fun z hz => hall z (by subst hz; simp [Op.operands])) (hopt hi fun z hz => hall z (by subst hz; simp [Op.operands])) (hopt mx fun z hz => hall z (by subst hz; simp [Op.operands])) hc
      exact wp_val (run_v h1) (hK r w A X' (Later.refl w A) h2 h4 h3)
    rw [if_neg hown] at hc same
    obtain ⟨r, h1, h2⟩ := sliceV_sound hI (hv x (hall x (by simp [Op.operands]))) (hopt lo fun z hz => hall z (by subst hz; simp [Op.operands])) (hopt hi fun z hz => hall z (by subst hz; simp [Op.operands])) (hopt mx fun z hz => hall z (by subst hz; simp [Op.operands])) hc
    exact wp_val (run_v h1) (same r h2 rfl)
  case fieldAddr S x f =>
    obtain ⟨r, h1, h2⟩ := sFieldAddr_sound (hv x hok.1) hc
    refine wp_val (run_v h1) (same r h2 ?_)
    unfold sFieldAddr; split <;> rfl
  case field S x f =>
    obtain ⟨r, h1, h2⟩ := sField_sound (hv x hok.1) hc
    refine wp_val (run_v h1) (same r h2 ?_)
    unfold sField; split <;> rfl
  case indexAddr T x ix =>
    obtain ⟨r, h1, h2⟩ := sIndexAddr_sound hI (hv x hok.1) (hv ix hok.2.1) hc
    refine wp_val (run_v h1) (same r h2 ?_)
    unfold sIndexAddr
    split
    · split
      · rfl
      · split <;> rfl
      · split <;> rfl
      · rfl
      · rfl
      · rfl
    · rfl
  case index T x ix =>
    obtain ⟨r, h1, h2⟩ := sIndex_sound (hv x hok.1) (hv ix hok.2.1) hc
    refine wp_val (run_v h1) (same r h2 ?_)
    unfold sIndex; split <;> rfl
  case extract x ix =>
    have h1 := hv x hok.1
    cases hx : ev2 st x <;> simp only [hx, sExtract, bad] at hc same
    case tup vs =>
      rw [hx] at h1
      obtain ⟨us, hu, hl, hg⟩ := h1.tup_inv
      have hlt : ix < us.size := by omega
      have h2 := hg ix vs[ix] (List.getElem?_eq_getElem hc)
      have e1 : us.getD ix und = us[ix] := by simp [Array.getD_eq_getD_getElem?, Array.getElem?_eq_getElem hlt]
      have e2 : vs.getD ix .top = vs[ix] := by simp [List.getD, List.getElem?_eq_getElem hc]
      rw [e2] at same
      refine wp_val (run_v (v := us.getD ix und) (w' := w) ?_) (same _ h2 trivial)
      rw [hu, e1]; simp [Instr.extract, Array.getElem?_eq_getElem hlt]
  case makeMap T r =>
    obtain ⟨v, w', A', X', h1, h2, h3, h4, h5⟩ := sMkMap_sound (P := E.P) (ur := r.map a.eval) hI (fun y hy => by
      cases r with
      | none => cases hy
      | some x =>
        simp only [Option.map_some, Option.some.injEq] at hy
        subst hy
        exact ⟨_, rfl, hv x (allv_mem hok x (by simp [Op.operands]))⟩) hc
    exact wp_val (run_v h1) (hK v w' A' X' h2 h3 h5 h4)
  case lookup T m k ok =>
    obtain ⟨v, h1, h2⟩ := sLook_sound hI (hv m hok.1) (hv k hok.2.1) hc
    refine wp_val (run_v h1) (same v h2 ?_)
    unfold sLook; split <;> rfl
  case mapUpdate T m k x =>
    obtain ⟨w', h1, h2, h3⟩ := sMapSet_sound hI (hv m hok.1) (hv k hok.2.1) (hv x hok.2.2.1) hc
    have hv' : (sMapSet E.P T (ev2 st m) (ev2 st k) (ev2 st x) h).v = .top := by
      unfold sMapSet; split
      · split <;> rfl
      · rfl
    have := hK undef w' A X h2 (Xle.refl X) (by rw [hv']; exact .pure (.top _)) h3
    unfold Oper.wp execOp
    simp only [Sem.run_bind, h1, Result.andThen_ok, Sem.run_pure, Oper.upon]
    exact this
  case insert T m k x =>
    obtain ⟨w', h1, h2, h3⟩ := sMapSet_sound hI (hv m hok.1) (hv k hok.2.1) (hv x hok.2.2.1) hc
    have hv' : (sMapSet E.P T (ev2 st m) (ev2 st k) (ev2 st x) h).v = .top := by
      unfold sMapSet; split
      · split <;> rfl
      · rfl
    have := hK undef w' A X h2 (Xle.refl X) (by rw [hv']; exact .pure (.top _)) h3
    unfold Oper.wp execOp
    simp only [Sem.run_bind, h1, Result.andThen_ok, Sem.run_pure, Oper.upon]
    exact this
  case call c => exact absurd ⟨c, rfl⟩ hcall
  all_goals exact hc.elim
end
end Go.Sx
