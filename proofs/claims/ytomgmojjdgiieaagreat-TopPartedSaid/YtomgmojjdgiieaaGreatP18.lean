/- A function's soundness. No conditions. -/
import Derived.Test.YtomgmojjdgiieaaGreatP17
set_option linter.unusedSimpArgs false
set_option linter.unusedVariables false
set_option linter.unusedSectionVars false
namespace Go.Sx
open Go.RowKit
variable [Gls]
section
variable {F : Fr} {w : World} {A : Nat → Prop} {X : Refs} {h : Hp}
def resV (P : Program) (st : St) : ResultVar → Prop × V
  | .tmp t => match st.t t with
    | (g, v) => match lend st.h v with
      | (c, r) => (g = true ∧ v.argOk = true ∧ c, r)
  | .cell a T => match st.t a with
    | (g, p) => match sLoad P T p st.h with
      | ⟨c, v, _⟩ => match lend st.h v with
        | (c', r) => (g = true ∧ c ∧ v.argOk = true ∧ c', r)
def ressV (P : Program) (st : St) : List ResultVar → Prop × List V
  | [] => (True, [])
  | x :: xs => match resV P st x with
    | (c, v) => match ressV P st xs with
      | (c', vs) => (c ∧ c', v :: vs)
def retV (P : Program) (rs : List ResultVar) (st : St) : Prop × V :=
  match rs with
  | [x] => resV P st x
  | xs => match ressV P st xs with
    | (c, vs) => (c, .tup vs)
def noH : Hp := fun _ => { base := 0, blks := [] }
def upds : List (Nat × (Bool × V)) → (Nat → Bool × V) → Nat → Bool × V
  | [], T, k => T k
  | (d, x) :: L, T, k => if k = d then x else upds L T k
def topT (_ : Nat) : Bool × V := (true, .top)
def zipT : Nat → List V → List (Nat × (Bool × V))
  | _, [] => []
  | n, a :: r => (n, (true, a)) :: zipT (n + 1) r
omit [Gls] in
theorem zipT_get : ∀ (args : List V) (n k : Nat), n ≤ k → upds (zipT n args) topT k = (true, args.getD (k - n) .top)
  | [], n, k, _ => rfl
  | a :: r, n, k, hk => by
    simp only [zipT, upds]
    by_cases h : k = n
    · subst h; simp
    · rw [if_neg h, zipT_get r (n + 1) k (by omega)]
      rw [show k - n = (k - (n + 1)) + 1 by omega]; simp
def entry (args : List V) (h : Hp) : St := { t := upds (zipT 0 args) topT, h := h }
omit [Gls] in
theorem entry_t (args : List V) (h : Hp) (k : Nat) : (entry args h).t k = (true, args.getD k .top) := zipT_get args 0 k (Nat.zero_le _)
def PureBody (E : Env) (ok : Alts) (fn : Func) (S : PSpec) : Prop :=
  E.yl = none ∧ ∀ d : S.dom, S.pre d → awp E ok (fn.body.getD .skip) (entry (S.enc d) noH) fun e st => (e = .normal ∨ e = .ret) ∧ match retV E.P fn.results.toList st with
    | (c, v) => c ∧ sub v (S.res d)
def resRun (tmps : Array Value) : ResultVar → Sem Value
  | .tmp t => pure (tmps.getD t undef)
  | .cell a t => do loadVar t (← asAddr (tmps.getD a undef))
def TOK (w : World) (A : Nat → Prop) (X : Refs) (t : Nat → Bool × V) (tmps : Array Value) : Prop :=
  ∀ k, ((t k).1 = true → RV w A X (t k).2 (tmps.getD k undef)) ∧ ((t k).1 = false → tmps.getD k undef = undef)
theorem leaves {P : Program} {fn : Func} {tmps : Array Value} {Q : Ending → World → Prop} {X : Refs} {h : Hp} {A : Nat → Prop} : ∀ (ds : List Deferred) (w : World), Inv F w A X h → Mk F.w0.heap.size A w ds →
    (∀ w', Calm w w' → Inv F w' A X h → ∃ v, (results fn tmps).run P w' = .ok v w' ∧ Q (.returned v) w') → LeavesInM Fence.wide 0 P fn tmps Q ds .returning w
  | [], w, hI, _, hq => hq w (Calm.refl w) hI
  | d :: ds, w, hI, hmk, hq => by
    obtain ⟨D, rfl, h1, h2, h3⟩ := hmk.2 d List.mem_cons_self
    have hp := List.pairwise_cons.1 hmk.1
    refine ⟨(fun e => by cases e), .inl ⟨D, w.putObj D (.deferred none), rfl, run_takeDeferred h2, ?_⟩⟩
    refine leaves ds _ (hI.put_new _ h2 rfl h1) ⟨hp.2, fun d hd => ?_⟩ fun w' hc hI' => hq w' ?_ hI'
    · obtain ⟨D', rfl, k1, k2, k3⟩ := hmk.2 d (List.mem_cons_of_mem _ hd)
      refine ⟨D', rfl, k1, ?_, k3⟩
      rw [World.putObj_heap_other (fun e => hp.1 _ hd (by rw [e]))]
      exact k2
    · have h0 := Calm.put (l := D) (.deferred none) h2 rfl
      exact ⟨Nat.le_trans h0.size hc.size, fun b arr ty fr hb => hc.cells b arr ty fr (h0.cells b arr ty fr hb), fun b es clk hb => hc.maps b es clk (h0.maps b es clk hb), hc.os.trans h0.os, hc.tape.trans h0.tape, hc.output.trans h0.output⟩
omit [Gls] in
theorem TOK.calm {w w' : World} {t : Nat → Bool × V} {tmps : Array Value} (ht : TOK w A X t tmps) (hc : Calm w w') : TOK w' A X t tmps := fun k => ⟨fun hh => ((ht k).1 hh).calm hc, (ht k).2⟩
omit [Gls] in
theorem calls_marks {P : Program} {f : FuncId} {fn : Func} {c : Code} {args : Array Value} {w : World} {Q : Ending → World → Prop} (hf : P.funcs[f]? = some fn) (hb : fn.body = some c)
    (h : c.wpIn (wideR none) 0 P (bodyPostM Fence.wide 0 P fn Q) { tmps := args ++ Array.replicate (fn.ntmps - args.size) undef, defers := [] } w) : Calls P f args w Q :=
  callsIn_wide.1 (callsIn_of_wp_marks (F := Fence.wide) (n := 0) hf hb trivial h rfl)
theorem run_resV {P : Program} {st : St} {tmps : Array Value} {w : World} {A : Nat → Prop} {X : Refs} (hI : Inv F w A X st.h) (ht : TOK w A X st.t tmps) (r : ResultVar) (hc : (resV P st r).1) :
    ∃ v, (resRun tmps r).run P w = .ok v w ∧ PV w (lentA A X st.h) (resV P st r).2 v := by
  cases r with
  | tmp t =>
    cases h1 : st.t t with
    | mk g v =>
    cases h2 : lend st.h v with
    | mk c r =>
    simp only [resV, h1, h2] at hc ⊢
    have htt := ht t
    rw [h1] at htt
    have := lend_sound hI (htt.1 hc.1) (by rw [h2]; exact hc.2.2) hc.2.1
    rw [h2] at this
    exact ⟨_, rfl, this⟩
  | cell a T =>
    cases h1 : st.t a with
    | mk g p =>
    cases h3 : sLoad P T p st.h with
    | mk c v h' =>
    cases h2 : lend st.h v with
    | mk c' r =>
    simp only [resV, h1, h2, h3] at hc ⊢
    have htt := ht a
    rw [h1] at htt
    obtain ⟨u, hl1, hl2⟩ := sLoad_sound (P := P) (T := T) hI (htt.1 hc.1) (by rw [h3]; exact hc.2.1)
    rw [h3] at hl2
    have := lend_sound hI hl2 (by rw [h2]; exact hc.2.2.2) hc.2.2.1
    rw [h2] at this
    refine ⟨u, ?_, this⟩
    simp only [resRun]
    cases htm : tmps.getD a undef with
    | pointer x =>
      cases x with
      | some b =>
        rw [htm] at hl1
        simp only [Instr.loadAt, Instr.sureAddr, Sem.run_bind, Sem.run_pure, Result.andThen_ok] at hl1
        simpa [asAddr] using hl1
      | none => rw [htm] at hl1; simp [Instr.loadAt, Instr.sureAddr] at hl1
    | _ => rw [htm] at hl1; simp [Instr.loadAt, Instr.sureAddr] at hl1
theorem run_ressV {P : Program} {st : St} {tmps : Array Value} {w : World} {A : Nat → Prop} {X : Refs} (hI : Inv F w A X st.h) (ht : TOK w A X st.t tmps) : ∀ (rs : List ResultVar), (ressV P st rs).1 →
    ∃ vs : List Value, (rs.mapM (resRun tmps)).run P w = .ok vs w ∧ vs.length = rs.length ∧ (ressV P st rs).2.length = rs.length ∧ ∀ (i : Nat) (c : V) (v : Value), (ressV P st rs).2[i]? = some c → vs[i]? = some v → PV w (lentA A X st.h) c v
  | [], _ => ⟨[], by simp, rfl, rfl, fun i c v hc => by simp [ressV] at hc⟩
  | x :: xs, hc => by
    cases h1 : resV P st x with
    | mk c v =>
    cases h2 : ressV P st xs with
    | mk c' vs =>
    simp only [ressV, h1, h2] at hc ⊢
    obtain ⟨u, hu1, hu2⟩ := run_resV (P := P) hI ht x (by rw [h1]; exact hc.1)
    obtain ⟨us, hs1, hs2, hs3, hs4⟩ := run_ressV (P := P) hI ht xs (by rw [h2]; exact hc.2)
    rw [h1] at hu2
    rw [h2] at hs3 hs4
    refine ⟨u :: us, ?_, by simp [hs2], by simpa using hs3, fun i c v hc hv => ?_⟩
    · simp only [List.mapM_cons, Sem.run_bind, hu1, Result.andThen_ok, hs1, Sem.run_pure]
    · cases i with
      | zero => simp at hc hv; subst hc hv; exact hu2
      | succ i => exact hs4 i c v (by simpa using hc) (by simpa using hv)
omit [Gls] in
theorem results_run {P : Program} {fn : Func} {tmps : Array Value} {w : World} {vs : List Value} (h : (fn.results.toList.mapM (resRun tmps)).run P w = .ok vs w) :
    (results fn tmps).run P w = .ok (if h : vs.toArray.size = 1 then vs.toArray[0] else .tuple vs.toArray) w := by
  have hm : (fn.results.mapM (resRun tmps)).run P w = .ok vs.toArray w := by
    rw [Array.mapM_eq_mapM_toList]
    refine (Sem.run_map P w _ _).trans ?_
    rw [h]; rfl
  unfold results
  have e : (fun r => match r with | .tmp t => pure (tmps.getD t undef) | .cell a t => do loadVar t (← asAddr (tmps.getD a undef)) : ResultVar → Sem Value) = resRun tmps := by
    funext r; cases r <;> rfl
  show (do let vs ← fn.results.mapM (resRun tmps); pure (if h : vs.size = 1 then vs[0] else .tuple vs) : Sem Value).run P w = _
  simp only [Sem.run_bind, hm, Result.andThen_ok, Sem.run_pure]
theorem retV_sound {P : Program} {fn : Func} {st : St} {tmps : Array Value} {w : World} {A : Nat → Prop} {X : Refs} (hI : Inv F w A X st.h) (ht : TOK w A X st.t tmps) (hc : (retV P fn.results.toList st).1) :
    ∃ v, (results fn tmps).run P w = .ok v w ∧ PV w (lentA A X st.h) (retV P fn.results.toList st).2 v := by
  generalize hrs : fn.results.toList = rs at hc ⊢
  unfold retV at hc ⊢
  split at hc
  · rename_i x
    obtain ⟨u, hu1, hu2⟩ := run_resV (P := P) hI ht x hc
    refine ⟨u, ?_, hu2⟩
    have := results_run (P := P) (fn := fn) (tmps := tmps) (w := w) (vs := [u]) (by rw [hrs]; simp [List.mapM_cons, hu1])
    simpa using this
  · rename_i hne
    cases h2 : ressV P st rs with
    | mk c' vs =>
    rw [h2] at hc
    simp only at hc ⊢
    obtain ⟨us, hs1, hs2, hs3, hs4⟩ := run_ressV (P := P) hI ht rs (by rw [h2]; exact hc)
    rw [h2] at hs3 hs4
    have := results_run (P := P) (fn := fn) (tmps := tmps) (w := w) (vs := us) (by rw [hrs]; exact hs1)
    have hs3' : vs.length = rs.length := hs3
    have hl : ¬ us.toArray.size = 1 := by
      intro hh
      have h1 : rs.length = 1 := by rw [← hs2]; simpa using hh
      obtain ⟨x, rfl⟩ := List.length_eq_one_iff.1 h1
      exact hne x rfl
    rw [dif_neg hl] at this
    refine ⟨_, this, .tup vs us.toArray (by simp; omega) fun i c hi => ?_⟩
    have hlt : i < us.length := by have := (List.getElem?_eq_some_iff.1 hi).1; omega
    have hg : us.toArray.getD i und = us[i] := by simp [Array.getD_eq_getD_getElem?, hlt]
    rw [hg]
    exact hs4 i c _ hi (List.getElem?_eq_getElem hlt)
theorem pure_ok {E : Env} (hT : TblOK E) {ok : Alts} {f : FuncId} {fn : Func} {c : Code} {S : PSpec} (hf : E.P.funcs[f]? = some fn) (hb : fn.body = some c) (hok : drawsOk E ok c = true) (hnt : fn.ntmps = E.nt) (hlen : ∀ d, S.pre d → (S.enc d).length ≤ E.nt)
    (h : PureBody E ok fn S) : PureOK E.P f S := by
  intro d hd w A vals hG hA hsz hargs
  have hw := h.2 d hd
  rw [hb] at hw
  simp only [Option.getD_some] at hw
  refine calls_marks hf hb ?_
  let X0 : Refs := { D := fun _ _ => { b := 0, z := 0, len := 0, v := .slice none 0 0 }, N := fun _ => 0 }
  let F0 : Fr := { w0 := w, A0 := A, X0 := X0, M := fun _ => False }
  have hI : Inv F0 w A X0 noH := by
    refine { gl := hG, abd := hA, aold := fun b _ h => h, akeep := fun b _ h _ => h, os := rfl, tape := rfl, output := rfl, size := Nat.le_refl _, same := fun _ _ _ => rfl, xle := Xle.refl _, nb := fun s => Nat.zero_le _, mi := ⟨fun _ => Nat.zero_le _, fun s i m hg => by simp [mget, noH] at hg, fun s i m s' i' m' hg => by simp [mget, noH] at hg⟩, blk := ?_, inj := ?_ }
    · intro s i B hg; simp [hget, noH] at hg
    · intro s i B s' i' B' hg; simp [hget, noH] at hg
  have hR : R F0 E.nt (entry (S.enc d) noH) { tmps := vals ++ Array.replicate (fn.ntmps - vals.size) undef, defers := [] } w := by
    refine ⟨⟨A, X0, hI, fun k => ?_, Mk.nil _ _ _⟩, by have := hlen d hd; simp [hnt]; omega⟩
    rw [entry_t]
    refine ⟨fun _ => ?_, fun hh => by cases hh⟩
    simp only
    by_cases hk : k < (S.enc d).length
    · have e1 : (S.enc d).getD k .top = (S.enc d)[k] := by simp [List.getD, List.getElem?_eq_getElem hk]
      rw [e1]
      have := hargs k _ (List.getElem?_eq_getElem hk)
      have e2 : (vals ++ Array.replicate (fn.ntmps - vals.size) undef).getD k undef = vals.getD k und := by
        simp only [Array.getD_eq_getD_getElem?]
        rw [Array.getElem?_append_left (by omega)]
      rw [e2]; exact .pure this
    · have e1 : (S.enc d).getD k .top = .top := by simp [List.getD, List.getElem?_eq_none (Nat.le_of_not_lt hk)]
      rw [e1]; exact .pure (.top _)
  have hyl : E.yl = none := h.1
  refine awp_soundK hT c hok _ none (K1.ok hyl F0 none (fun l e => by cases e)) 0 _ _ _ _ w hw (R2.k1.2 hR) fun e st' a' w1 e' hq hR' he => ?_
  obtain ⟨⟨A', X', hI1, ht1, hmk1⟩, hsz'⟩ := R2.k1.1 hR'
  cases hrv : retV E.P fn.results.toList st' with
  | mk cr vr =>
  rw [hrv] at hq
  obtain ⟨hq1, hq2, hq3⟩ := hq
  have hfin : LeavesInM Fence.wide 0 E.P fn a'.tmps (fun e w' => ∃ v, e = .returned v ∧ Below w.heap.size w w' ∧ PV w' A (S.res d) v) a'.defers .returning w1 := by
    refine leaves a'.defers w1 hI1 hmk1 fun w' hcalm hI' => ?_
    have ht' := TOK.calm ht1 hcalm
    obtain ⟨v, hv1, hv2⟩ := retV_sound (P := E.P) (fn := fn) hI' ht' (by rw [hrv]; exact hq2)
    rw [hrv] at hv2
    refine ⟨v, hv1, v, rfl, ⟨hI'.os, hI'.tape, hI'.output, hI'.size, fun k hk => hI'.same k hk (fun hh => hh)⟩, sub_sound hq3 (hv2.mono ⟨Nat.le_refl _, fun b hb hl => ⟨rfl, fun hAb => hl ⟨hI'.akeep b (hA b hAb) hAb (fun hh => hh), ?_⟩⟩⟩)⟩
    rintro (⟨s, i, B, hg, hfz, hreal, hbb⟩ | ⟨s, i, m, hg, hbb⟩)
    · rcases (hI'.blk s i B hg).mem with hm | ⟨arr, cap, g1, g2, g3, g4, g5, g6, g7, g8⟩
      · exact hreal hm.1
      · rcases (g8 hfz).2 with h9 | h9
        · exact h9
        · have h10 := hA b hAb
          have h9' : w.heap.size ≤ (X'.D s i).b := h9
          omega
    · rcases (hI'.mi.mp s i m hg).own.2 with h9 | h9
      · exact h9
      · have h10 := hA b hAb
        have h9' : w.heap.size ≤ X'.M s i := h9
        omega
  cases e' <;> simp only [exOf, Option.some.injEq, reduceCtorEq] at he
  · exact hfin
  · subst he; rcases hq1 with hh | hh <;> cases hh
  · exact hfin
def rawV (P : Program) (st : St) : ResultVar → Prop × V
  | .tmp t => ((st.t t).1 = true, (st.t t).2)
  | .cell a T => ((st.t a).1 = true ∧ (sLoad P T (st.t a).2 st.h).c, (sLoad P T (st.t a).2 st.h).v)
def rawsV (P : Program) (st : St) : List ResultVar → Prop × List V
  | [] => (True, [])
  | x :: xs => ((rawV P st x).1 ∧ (rawsV P st xs).1, (rawV P st x).2 :: (rawsV P st xs).2)
def rawR (P : Program) (rs : List ResultVar) (st : St) : Prop × V :=
  match rs with
  | [x] => rawV P st x
  | xs => ((rawsV P st xs).1, .tup (rawsV P st xs).2)
theorem run_rawV {P : Program} {st : St} {tmps : Array Value} {w : World} {A : Nat → Prop} {X : Refs} (hI : Inv F w A X st.h) (ht : TOK w A X st.t tmps) (r : ResultVar) (hc : (rawV P st r).1) :
    ∃ v, (resRun tmps r).run P w = .ok v w ∧ RV w A X (rawV P st r).2 v := by
  cases r with
  | tmp t => exact ⟨_, rfl, (ht t).1 hc⟩
  | cell a T =>
    simp only [rawV] at hc ⊢
    obtain ⟨u, hl1, hl2⟩ := sLoad_sound (P := P) (T := T) hI ((ht a).1 hc.1) hc.2
    refine ⟨u, ?_, hl2⟩
    simp only [resRun]
    cases htm : tmps.getD a undef with
    | pointer x =>
      cases x with
      | some b =>
        rw [htm] at hl1
        simp only [Instr.loadAt, Instr.sureAddr, Sem.run_bind, Sem.run_pure, Result.andThen_ok] at hl1
        simpa [asAddr] using hl1
      | none => rw [htm] at hl1; simp [Instr.loadAt, Instr.sureAddr] at hl1
    | _ => rw [htm] at hl1; simp [Instr.loadAt, Instr.sureAddr] at hl1
theorem run_rawsV {P : Program} {st : St} {tmps : Array Value} {w : World} {A : Nat → Prop} {X : Refs} (hI : Inv F w A X st.h) (ht : TOK w A X st.t tmps) : ∀ (rs : List ResultVar), (rawsV P st rs).1 →
    ∃ vs : List Value, (rs.mapM (resRun tmps)).run P w = .ok vs w ∧ vs.length = rs.length ∧ (rawsV P st rs).2.length = rs.length ∧ ∀ (i : Nat) (c : V) (v : Value), (rawsV P st rs).2[i]? = some c → vs[i]? = some v → RV w A X c v
  | [], _ => ⟨[], by simp, rfl, rfl, fun i c v hc => by simp [rawsV] at hc⟩
  | x :: xs, hc => by
    simp only [rawsV] at hc ⊢
    obtain ⟨u, hu1, hu2⟩ := run_rawV (P := P) hI ht x hc.1
    obtain ⟨us, hs1, hs2, hs3, hs4⟩ := run_rawsV (P := P) hI ht xs hc.2
    refine ⟨u :: us, ?_, by simp [hs2], by simpa using hs3, fun i c v hc hv => ?_⟩
    · simp only [List.mapM_cons, Sem.run_bind, hu1, Result.andThen_ok, hs1, Sem.run_pure]
    · cases i with
      | zero => simp at hc hv; subst hc hv; exact hu2
      | succ i => exact hs4 i c v (by simpa using hc) (by simpa using hv)
theorem rawR_sound {P : Program} {fn : Func} {st : St} {tmps : Array Value} {w : World} {A : Nat → Prop} {X : Refs} (hI : Inv F w A X st.h) (ht : TOK w A X st.t tmps) (hc : (rawR P fn.results.toList st).1) :
    ∃ v, (results fn tmps).run P w = .ok v w ∧ RV w A X (rawR P fn.results.toList st).2 v := by
  generalize hrs : fn.results.toList = rs at hc ⊢
  unfold rawR at hc ⊢
  split at hc
  · rename_i x
    obtain ⟨u, hu1, hu2⟩ := run_rawV (P := P) hI ht x hc
    refine ⟨u, ?_, hu2⟩
    have := results_run (P := P) (fn := fn) (tmps := tmps) (w := w) (vs := [u]) (by rw [hrs]; simp [List.mapM_cons, hu1])
    simpa using this
  · rename_i hne
    simp only at hc ⊢
    obtain ⟨us, hs1, hs2, hs3, hs4⟩ := run_rawsV (P := P) hI ht rs hc
    have := results_run (P := P) (fn := fn) (tmps := tmps) (w := w) (vs := us) (by rw [hrs]; exact hs1)
    have hl : ¬ us.toArray.size = 1 := by
      intro hh
      have h1 : rs.length = 1 := by rw [← hs2]; simpa using hh
      obtain ⟨x, rfl⟩ := List.length_eq_one_iff.1 h1
      exact hne x rfl
    rw [dif_neg hl] at this
    refine ⟨_, this, .tup _ us.toArray (by simp; omega) fun i c hi => ?_⟩
    have hlt : i < us.length := by have := (List.getElem?_eq_some_iff.1 hi).1; omega
    have hg : us.toArray.getD i und = us[i] := by simp [Array.getD_eq_getD_getElem?, hlt]
    rw [hg]
    exact hs4 i c _ hi (List.getElem?_eq_getElem hlt)
def HeapBody (E : Env) (ok : Alts) (fn : Func) (S : HSpec) : Prop :=
  ∀ (args : List V) (h : Hp), (S.go args h).c → awp E ok (fn.body.getD .skip) (entry args h) fun e st => (e = .normal ∨ e = .ret) ∧ (rawR E.P fn.results.toList st).1 ∧ sub (rawR E.P fn.results.toList st).2 (S.go args h).v ∧ HLe st.h (S.go args h).h
theorem awp_mono {E : Env} {ok : Alts} : ∀ (c : Code) (st : St) (Q Q' : Ex → St → Prop), (∀ e st, Q e st → Q' e st) → awp E ok c st Q → awp E ok c st Q' := by
  intro c
  induction c with
  | skip => intro st Q Q' hq h; exact hq _ _ h
  | ret => intro st Q Q' hq h; exact hq _ _ h
  | exit id => intro st Q Q' hq h; exact hq _ _ h
  | region id ops draw =>
    intro st Q Q' hq h
    simp only [awp] at h ⊢
    obtain ⟨hc0, h⟩ := h
    refine ⟨hc0, ?_⟩
    clear hc0
    revert h
    generalize (frzs (lkf E.frz id) st).2 = st
    intro h
    split at h
    · rename_i fr cs hcs
      have mono : ∀ (cs : List (List Nat)) {K K' : St → Prop}, (∀ s, K s → K' s) → runs E ops.toList fr cs st K → runs E ops.toList fr cs st K' := by
        intro cs K K' hk
        induction cs with
        | nil => intro h; exact h
        | cons c cs ih => intro h; exact ⟨⟨h.1.1, hk _ h.1.2⟩, ih h.2⟩
      exact mono cs (fun s hs => hq _ _ hs) h
    · cases hr : runL E ops.toList ops.toList st with
      | mk c st' => rw [hr] at h; exact ⟨h.1, hq _ _ h.2⟩
  | seq x y ihx ihy =>
    intro st Q Q' hq h
    simp only [awp] at h ⊢
    refine ihx st _ _ (fun e st' hh => ?_) h
    cases e with
    | normal => exact ihy st' _ _ hq hh
    | exit id => exact hq _ _ hh
    | ret => exact hq _ _ hh
  | cond c x y ihx ihy =>
    intro st Q Q' hq h
    simp only [awp] at h ⊢
    cases hev : ev st c with
    | mk g v =>
    rw [hev] at h
    cases v with
    | bool b => exact ⟨h.1, fun hb => ihx st _ _ hq (h.2.1 hb), fun hb => ihy st _ _ hq (h.2.2 hb)⟩
    | anyb => exact ⟨h.1, ihx st _ _ hq h.2.1, ihy st _ _ hq h.2.2⟩
    | _ => exact h.elim
  | block id c ih =>
    intro st Q Q' hq h
    simp only [awp] at h ⊢
    refine ih st _ _ (fun e st' hh => ?_) h
    cases e with
    | normal => exact hq _ _ hh
    | exit i =>
      simp only at hh ⊢
      by_cases hi : i = id
      · rw [if_pos hi] at hh ⊢; exact hq _ _ hh
      · rw [if_neg hi] at hh ⊢; exact hq _ _ hh
    | ret => exact hq _ _ hh
  | loop c ih =>
    intro st Q Q' hq h
    simp only [awp] at h ⊢
    obtain ⟨ι, I, m, i0, hle, hb⟩ := h
    refine ⟨ι, I, m, i0, hle, fun i => ih (I i) _ _ (fun e st' hh => ?_) (hb i)⟩
    cases e with
    | normal => exact hh
    | exit id => exact hq _ _ hh
    | ret => exact hq _ _ hh
  | rangeFunc g ps x y ihx ihy =>
    intro st Q Q' hq h
    simp only [awp] at h ⊢
    obtain ⟨h1, it, caps, S, Y, e0, h2, h3, h4⟩ := h
    exact ⟨h1, it, caps, S, Y, e0, h2, h3, fun l => ⟨(h4 l).1, fun hh => hq _ _ ((h4 l).2.1 hh), fun hh => ⟨((h4 l).2.2 hh).1, hq _ _ ((h4 l).2.2 hh).2⟩⟩⟩
  | _ => intro st Q Q' hq h; exact h.elim
def HeapBodyG (E : Env) (ok : Alts) (fn : Func) (S : HSpec) : Prop :=
  ∀ (args : List V) (h : Hp), (S.go args h).c → awp E ok (fn.body.getD .skip) (entry args h) fun e st => (e = .normal ∨ e = .ret) ∧ ∃ st', Gh st st' ∧ (rawR E.P fn.results.toList st').1 ∧ sub (rawR E.P fn.results.toList st').2 (S.go args h).v ∧ HLe st'.h (S.go args h).h
theorem heap_okG {E : Env} (hT : TblOK E) {ok : Alts} {f : FuncId} {fn : Func} {c : Code} {S : HSpec} (hf : E.P.funcs[f]? = some fn) (hb : fn.body = some c) (hok : drawsOk E ok c = true) (hnt : fn.ntmps = E.nt) (hlen : ∀ args h, (S.go args h).c → args.length ≤ E.nt)
    (h : HeapBodyG E ok fn S) (hyl : E.yl = none := by rfl) : HeapOK E.P f S := by
  intro args hp hc w A X vals hI hsz hargs
  have hw := h args hp hc
  rw [hb] at hw
  simp only [Option.getD_some] at hw
  refine calls_marks hf hb ?_
  have hR : R ⟨w, A, X, ownM X hp⟩ E.nt (entry args hp) { tmps := vals ++ Array.replicate (fn.ntmps - vals.size) undef, defers := [] } w := by
    refine ⟨⟨A, X, hI, fun k => ?_, Mk.nil _ _ _⟩, by have := hlen args hp hc; simp [hnt]; omega⟩
    rw [entry_t]
    refine ⟨fun _ => ?_, fun hh => by cases hh⟩
    simp only
    by_cases hk : k < args.length
    · have e1 : args.getD k .top = args[k] := by simp [List.getD, List.getElem?_eq_getElem hk]
      rw [e1]
      have := hargs k _ (List.getElem?_eq_getElem hk)
      have e2 : (vals ++ Array.replicate (fn.ntmps - vals.size) undef).getD k undef = vals.getD k und := by
        simp only [Array.getD_eq_getD_getElem?]
        rw [Array.getElem?_append_left (by omega)]
      rw [e2]; exact this
    · have e1 : args.getD k .top = .top := by simp [List.getD, List.getElem?_eq_none (Nat.le_of_not_lt hk)]
      rw [e1]; exact .pure (.top _)
  refine awp_soundK hT c hok _ none (K1.ok hyl _ none (fun l e => by cases e)) 0 _ _ _ _ w hw (R2.k1.2 hR) fun e st' a' w1 e' hq hR' he => ?_
  obtain ⟨hq1, st'', hg, hq2, hq3, hq4⟩ := hq
  obtain ⟨⟨A', X', hI1, ht1, hmk1⟩, hsz'⟩ := R2.k1.1 (R2.ghost (K1.ok hyl _ none (fun l e => by cases e)) hg hR')
  have hfin : LeavesInM Fence.wide 0 E.P fn a'.tmps (fun e w' => ∃ v A' X', e = .returned v ∧ Inv ⟨w, A, X, ownM X hp⟩ w' A' X' (S.go args hp).h ∧ RV w' A' X' (S.go args hp).v v) a'.defers .returning w1 := by
    refine leaves a'.defers w1 hI1 hmk1 fun w' hcalm hI' => ?_
    have ht' := TOK.calm ht1 hcalm
    obtain ⟨v, hv1, hv2⟩ := rawR_sound (P := E.P) (fn := fn) hI' ht' hq2
    exact ⟨v, hv1, v, A', X', rfl, hI'.hle hq4, sub_soundR hq3 hv2⟩
  cases e' <;> simp only [exOf, Option.some.injEq, reduceCtorEq] at he
  · exact hfin
  · subst he; rcases hq1 with hh | hh <;> cases hh
  · exact hfin
theorem heap_ok {E : Env} (hT : TblOK E) {ok : Alts} {f : FuncId} {fn : Func} {c : Code} {S : HSpec} (hf : E.P.funcs[f]? = some fn) (hb : fn.body = some c) (hok : drawsOk E ok c = true) (hnt : fn.ntmps = E.nt) (hlen : ∀ args h, (S.go args h).c → args.length ≤ E.nt)
    (h : HeapBody E ok fn S) (hyl : E.yl = none := by rfl) : HeapOK E.P f S :=
  heap_okG hT hf hb hok hnt hlen (fun args hp hc => awp_mono _ _ _ _ (fun _ _ q => ⟨q.1, _, .refl _, q.2⟩) (h args hp hc)) hyl
omit [Gls] in
omit [Gls] in
omit [Gls] in
omit [Gls] in
omit [Gls] in
theorem hset_ys {h : Hp} (hy : (h YS).blks = []) (s i : Nat) (B : Blk) : hset h s i B YS = h YS := by
  unfold hset
  split
  · rename_i e
    subst e
    rw [hy]
    cases hh : h YS with
    | mk base blks fl => rw [hh] at hy; simp only at hy; subst hy; rfl
  · rfl
omit [Gls] in
theorem hpush_ys (h : Hp) {s : Nat} (hs : s ≠ YS) (B : Blk) : hpush h s B YS = h YS := by unfold hpush; rw [if_neg (Ne.symm hs)]
omit [Gls] in
theorem hget_ys {h : Hp} (hy : (h YS).blks = []) (i : Nat) : hget h YS i = none := by unfold hget; rw [hy]; simp
omit [Gls] in
theorem hcut_ys {h : Hp} {s i : Nat} {B : Blk} (hy : (h YS).blks = []) (hg : hget h s i = some B) : hcut h s i YS = h YS := by
  unfold hcut
  split
  · rename_i e; subst e; rw [hget_ys hy] at hg; cases hg
  · rfl
theorem appendV_ys {E : Env} {key : Nat} {T : TypeId} {s x : V} {h : Hp} (hy : (h YS).blks = []) (hkey : key ≠ YS) : (appendV E key T s x h).h YS = h YS := by
  unfold appendV
  cases slEl E.P T with
  | none => rfl
  | some e =>
    cases s <;> dsimp only [bad]
    case nil => exact hpush_ys h hkey _
    case bsl s i n =>
      cases hget h s i with
      | none => rfl
      | some B => exact hset_ys hy _ _ _
    case osl s i n off len cap =>
      cases hget h s i with
      | none => rfl
      | some B => exact hset_ys hy _ _ _
    case emp => exact iteInduction (motive := fun o => (Out.h o) YS = h YS) (fun _ => rfl) (fun _ => iteInduction (motive := fun o => (Out.h o) YS = h YS) (fun _ => rfl) (fun _ => hpush_ys h hkey _))
theorem frzHs_ys : ∀ (L : List Nat) {h : Hp}, (h YS).blks = [] → (frzHs L h) YS = h YS
  | [], _, _ => rfl
  | s :: r, h, hy => by
    have e : (frzH h s) YS = h YS := by
      unfold frzH
      split
      · rename_i e; subst e
        cases hh : h YS with
        | mk b bl fl => rw [hh] at hy; simp only at hy; subst hy; rfl
      · rfl
    show (frzHs r (frzH h s)) YS = h YS
    rw [frzHs_ys r (by rw [e]; exact hy), e]
theorem preZ_ys {E : Env} {d : Nat} {f : V} {h : Hp} (hy : (h YS).blks = []) : (preZ E d f h) YS = h YS := by
  unfold preZ
  cases f <;> try rfl
  rename_i g cs
  simp only
  cases E.fn g with
  | none => rfl
  | some S => cases S <;> first | rfl | exact frzHs_ys _ hy
def KeepY (E : Env) : Prop := ∀ f S, E.fn f = some (.heap S) → ∀ args h, (S.go args h).c → (h YS).blks = [] → (S.go args h).h YS = h YS
omit [Gls] in
theorem mpush_ys (h : Hp) {s : Nat} (hs : s ≠ YS) (m : Mp) : mpush h s m YS = h YS := by
  unfold mpush; rw [if_neg (fun e => hs e.symm)]
omit [Gls] in
theorem sMapSet_ys {P : Program} {T : TypeId} {m k x : V} {h : Hp} (hc : (sMapSet P T m k x h).c) : (sMapSet P T m k x h).h YS = h YS := by
  unfold sMapSet at hc ⊢
  split
  · rename_i p a b c s i y hp hy
    rw [hp, hy] at hc
    simp only at hc ⊢
    cases hM : mget h s i with
    | none => rfl
    | some M =>
      simp only [hM] at hc ⊢
      unfold mset; rw [if_neg (fun e => hc.2.2.2 e.symm)]
  · rfl
theorem sem_ys {E : Env} (hyl : E.yl = none) (hkp : KeepY E) {d : Nat} (hkey : E.key + d ≠ YS) (op : Op) (ρ : Operand → V) {h : Hp} (hy : (h YS).blks = []) (hc : (sem E d op ρ h).c) : (sem E d op ρ h).h YS = h YS := by
  cases op <;> simp only [sem, bad] at hc ⊢
  case pick => unfold sPick at *; split <;> rfl
  case alloc => exact hpush_ys h hkey _
  case box => exact hpush_ys h hkey _
  case build => unfold sBuild; split <;> rfl
  case buildSlice =>
    unfold sBuildSlice sBuildE
    repeat' split
    all_goals first | rfl | exact hpush_ys h hkey _
  case load => unfold sLoad; split <;> (try rfl); split <;> rfl
  case store =>
    unfold sStore
    split
    · split
      · exact hset_ys hy _ _ _
      · rfl
    · rfl
  case makeMap =>
    unfold sMkMap; split
    · exact mpush_ys h hkey _
    · rfl
  case lookup => unfold sLook; split <;> rfl
  case mapUpdate => exact sMapSet_ys hc
  case insert => exact sMapSet_ys hc
  case nilCheck => unfold sNil; split <;> rfl
  case unOp => unfold sUn; split <;> rfl
  case convert => unfold sConv; split <;> rfl
  case makeFunc f first caps => cases f <;> simp only at hc ⊢ <;> (try rfl); split <;> rfl
  case makeSlice =>
    unfold sMakeSlice
    split
    · split <;> exact hpush_ys h hkey _
    · rfl
  case slice =>
    split
    · unfold sCut
      split
      · split
        · rename_i hg
          exact (hpush_ys _ hkey _).trans (hcut_ys hy hg)
        · rfl
      · rfl
    · rfl
  case fieldAddr => unfold sFieldAddr; split <;> rfl
  case field => unfold sField; split <;> rfl
  case indexAddr => unfold sIndexAddr; split <;> (try rfl); split <;> (try rfl) <;> split <;> rfl
  case index => unfold sIndex; split <;> rfl
  case extract => unfold sExtract; split <;> rfl
  case call c =>
    obtain ⟨callee, args, ats⟩ := c
    cases callee with
    | invoke r m => rfl
    | value f =>
      simp only at hc ⊢
      have hz := preZ_ys (E := E) (d := d) (f := ρ f) hy
      have hy' : ((preZ E d (ρ f) h) YS).blks = [] := by rw [hz]; exact hy
      rw [← hz]
      clear hz hy
      generalize preZ E d (ρ f) h = h at *
      have hy := hy'
      cases hf : ρ f <;> simp only [hf, sCall, bad, hyl] at hc ⊢
      case fn g caps =>
        unfold callF at hc ⊢
        cases hg : E.fn g with
        | none => rfl
        | some S =>
          cases S with
          | pure S => rfl
          | iter S => simp only [hyl]; rfl
          | heap S => simp only [hg] at hc; exact hkp g S hg _ h hc hy
    | builtin b =>
      cases b <;> simp only at hc ⊢ <;> (try rfl)
      case append =>
        split
        · split
          · exact appendV_ys hy hkey
          · unfold sAppendZ
            split
            · exact hpush_ys h hkey _
            · rfl
        · rfl
      case clear =>
        split
        · unfold sClear
          split
          · split
            · exact hset_ys hy _ _ _
            · rfl
          · rfl
        · rfl
      case copy =>
        split
        · unfold sCopy
          split
          · split
            · exact hset_ys hy _ _ _
            · rfl
          · rfl
        · rfl
      case len => split <;> (try rfl); unfold sLen; split <;> rfl
      case cap => split <;> (try rfl); unfold sCap; split <;> rfl
      case max => unfold sMax; split <;> rfl
      case min => unfold sMax; split <;> rfl
def KI (F0 : Fr) (l : Nat) (Pr : Loop → Prop) (F : Fr) (h : Hp) : Prop := (h YS).blks = [] ∧ ((F = F0 ∧ (h YS).fl = false) ∨ ∃ r, Pr r ∧ F = F0.stop l r ∧ (h YS).fl = true)
theorem Ends.conv {l : Nat} {Pr : Loop → Prop} {F0 : Fr} {w w' : World} {A A' : Nat → Prop} {X X' : Refs} {h h' : Hp} {r0 : Loop} (hI : Inv F0 w A X h) (hl : w.heap[l]? = some (.loop r0)) (hl0 : l < F0.w0.heap.size) (he : Ends ⟨w, A, X, ownM X h⟩ l Pr w' A' X' h') :
    ∃ F', KI F0 l Pr F' h' ∧ F'.w0.heap.size = F0.w0.heap.size ∧ Inv F' w' A' X' h' ∧ Carry w A X w' A' X' := by
  obtain ⟨hb, ⟨hf, hI'⟩ | ⟨hf, r, hr, hI'⟩⟩ := he
  · obtain ⟨k1, k2, k3⟩ := hI.back hI'
    exact ⟨F0, ⟨hb, .inl ⟨rfl, hf⟩⟩, rfl, k3, .of k1 k2⟩
  · obtain ⟨k1, k2, k3⟩ := (hI.put_old r hl rfl hl0).back hI'
    exact ⟨F0.stop l r, ⟨hb, .inr ⟨r, hr, rfl, hf⟩⟩, by simp [Fr.stop], k3, (Carry.put _ hl).trans (.of k1 k2)⟩
def IterBody (E : Env) (ok : Alts) (fn : Func) (S : Nat → HSpec → HSpec) : Prop :=
  ∀ (l : Nat) (Y : HSpec) (args : List V) (h : Hp), ((S l Y).go args h).c → (h YS).blks = [] → (h YS).fl = false → awp { E with yl := some (l, Y) } ok (fn.body.getD .skip) (entry args h) fun e st => (e = .normal ∨ e = .ret) ∧ (rawR E.P fn.results.toList st).1 ∧ sub (rawR E.P fn.results.toList st).2 ((S l Y).go args h).v ∧ HLe st.h ((S l Y).go args h).h
theorem iter_ok {E : Env} (hT : TblOK E) {ok : Alts} {f : FuncId} {fn : Func} {c : Code} {S : Nat → HSpec → HSpec} (hf : E.P.funcs[f]? = some fn) (hb : fn.body = some c) (hok : ∀ l Y, drawsOk { E with yl := some (l, Y) } ok c = true) (hnt : fn.ntmps = E.nt) (hlen : ∀ l Y args h, ((S l Y).go args h).c → args.length ≤ E.nt)
    (hyl : E.yl = none) (hkey : ∀ d, d < E.nt ∨ d = 0 → E.key + d ≠ YS) (hkp : KeepY E) (h : IterBody E ok fn S) : IterOK E.P f S := by
  intro l Y Pr B hB hY args hp hc hyb hyf w A X vals hBw hI hsz hargs
  have hw := h l Y args hp hc hyb hyf
  rw [hb] at hw
  simp only [Option.getD_some] at hw
  refine calls_marks hf hb ?_
  have hR : R ⟨w, A, X, ownM X hp⟩ E.nt (entry args hp) { tmps := vals ++ Array.replicate (fn.ntmps - vals.size) undef, defers := [] } w := by
    refine ⟨⟨A, X, hI, fun k => ?_, Mk.nil _ _ _⟩, by have := hlen l Y args hp hc; simp [hnt]; omega⟩
    rw [entry_t]
    refine ⟨fun _ => ?_, fun hh => by cases hh⟩
    simp only
    by_cases hk : k < args.length
    · have e1 : args.getD k .top = args[k] := by simp [List.getD, List.getElem?_eq_getElem hk]
      rw [e1]
      have := hargs k _ (List.getElem?_eq_getElem hk)
      have e2 : (vals ++ Array.replicate (fn.ntmps - vals.size) undef).getD k undef = vals.getD k und := by
        simp only [Array.getD_eq_getD_getElem?]
        rw [Array.getElem?_append_left (by omega)]
      rw [e2]; exact this
    · have e1 : args.getD k .top = .top := by simp [List.getD, List.getElem?_eq_none (Nat.le_of_not_lt hk)]
      rw [e1]; exact .pure (.top _)
  obtain ⟨r0, hr0⟩ := hB.1 w A X hBw
  have hl0 := (Array.getElem?_eq_some_iff.1 hr0).1
  have hKK : KOK { E with yl := some (l, Y) } (KI ⟨w, A, X, ownM X hp⟩ l Pr) none := by
    refine { ys := ?_, sem := ?_, frz := ?_, rf := ?_, rd := fun l e => (by cases e), sp := ?_ }
    · intro F h h' e hk; unfold KI at *; rw [e]; exact hk
    · intro F d op ρ h hd hk hc
      have hE : ({ ({ E with yl := some (l, Y) } : Env) with yl := none } : Env) = E := by cases E; simp only at hyl; subst hyl; rfl
      rw [hE] at hc ⊢
      have := sem_ys hyl hkp (hkey d hd) op ρ hk.1 hc
      unfold KI at *; rw [this]; exact hk
    · intro F k st hk hcf
      have : (frzK k st).2.h YS = st.h YS := by
        unfold frzK at hcf ⊢
        split
        · rename_i hk1
          rw [if_pos hk1] at hcf
          unfold frzW at hcf ⊢
          split
          · rename_i hq
            rw [hq] at hcf
            simp only at hcf ⊢
            split
            · rename_i hB
              rw [hB] at hcf
              simp only at hcf ⊢
              exact (hpush_ys _ hcf.1.2 _).trans (hcut_ys hk.1 hB)
            · rfl
          · rename_i hq
            rw [hq] at hcf
            simp only at hcf ⊢
            split
            · rename_i hB
              rw [hB] at hcf
              simp only at hcf ⊢
              exact (hpush_ys _ hcf.1.2 _).trans (hcut_ys hk.1 hB)
            · rfl
          all_goals rfl
        split
        · simp only [frzH]
          split
          · rename_i e
            rw [← e, hk.1]
            cases hh : st.h YS with
            | mk base blks fl => have := hk.1; rw [hh] at this; simp only at this; subst this; rfl
          · rfl
        · split
          · rfl
          · simp only
            unfold frz1
            split
            all_goals (try rfl)
            all_goals (split <;> first | rfl | exact hset_ys hk.1 _ _ _)
      unfold KI at *; rw [this]; exact hk
    · intro hh; cases hh
    · intro l' Y' e
      simp only [Option.some.injEq, Prod.mk.injEq] at e
      obtain ⟨rfl, rfl⟩ := e
      constructor
      · intro F args h hk hc w1 A1 X1 vals hI1 hvs hvr
        obtain ⟨hb1, hf1, hrest⟩ := hY args h hc
        obtain ⟨_, ⟨rfl, _⟩ | ⟨r, _, _, hft⟩⟩ := hk
        · have hB1 := hB.2 _ _ _ _ _ _ _ _ hBw hI hI1
          obtain ⟨r1, hr1⟩ := hB.1 _ _ _ hB1
          obtain ⟨fn', tmps, assign, body, hrun, hround⟩ := hrest w1 A1 X1 vals hB1 hI1.self hvs hvr
          refine ⟨fn', tmps, assign, body, hrun, hround.mono ?_⟩
          rintro e w' ⟨v, A', X', rfl, hends, hv⟩
          obtain ⟨F', g1, g2, g3, g4⟩ := Ends.conv hI1 hr1 hl0 hends
          exact ⟨v, A', X', F', rfl, g1, g2, g3, g4, hv⟩
        · rw [hf1] at hft; cases hft
      · intro g S' hS' F args h hk hb1 hf1 hc w1 A1 X1 vals hI1 hvs hvr
        obtain ⟨_, ⟨rfl, _⟩ | ⟨r, _, _, hft⟩⟩ := hk
        · have hB1 := hB.2 _ _ _ _ _ _ _ _ hBw hI hI1
          obtain ⟨r1, hr1⟩ := hB.1 _ _ _ hB1
          refine (hS' l Y Pr B hB hY args h hc hb1 hf1 w1 A1 X1 vals hB1 hI1.self hvs hvr).mono ?_
          rintro e w' ⟨v, A', X', rfl, hends, hv⟩
          obtain ⟨F', g1, g2, g3, g4⟩ := Ends.conv hI1 hr1 hl0 hends
          exact ⟨v, A', X', F', rfl, g1, g2, g3, g4, hv⟩
        · rw [hf1] at hft; cases hft
  refine awp_soundK (E := { E with yl := some (l, Y) }) hT c (hok l Y) _ none hKK 0 _ _ _ _ w hw ⟨_, ⟨hyb, .inl ⟨rfl, hyf⟩⟩, hR⟩ fun e st' a' w1 e' hq hR' he => ?_
  obtain ⟨hq1, hq2, hq3, hq4⟩ := hq
  obtain ⟨F', hF', ⟨A', X', hI1, ht1, hmk1⟩, hsz'⟩ := hR'
  have hfin : LeavesInM Fence.wide 0 E.P fn a'.tmps (fun e w' => ∃ v A' X', e = .returned v ∧ Ends ⟨w, A, X, ownM X hp⟩ l Pr w' A' X' ((S l Y).go args hp).h ∧ RV w' A' X' ((S l Y).go args hp).v v) a'.defers .returning w1 := by
    refine leaves a'.defers w1 hI1 hmk1 fun w' hcalm hI' => ?_
    have ht' := TOK.calm ht1 hcalm
    obtain ⟨v, hv1, hv2⟩ := rawR_sound (P := E.P) (fn := fn) hI' ht' hq2
    refine ⟨v, hv1, v, A', X', rfl, ⟨?_, ?_⟩, sub_soundR hq3 hv2⟩
    · rw [hq4.2.1]; exact hF'.1
    · rcases hF'.2 with ⟨rfl, hf⟩ | ⟨r, hr, rfl, hf⟩
      · exact .inl ⟨by rw [hq4.2.1]; exact hf, hI'.hle hq4⟩
      · exact .inr ⟨by rw [hq4.2.1]; exact hf, r, hr, hI'.hle hq4⟩
  cases e' <;> simp only [exOf, Option.some.injEq, reduceCtorEq] at he
  · exact hfin
  · subst he; rcases hq1 with hh | hh <;> cases hh
  · exact hfin
end
end Go.Sx
