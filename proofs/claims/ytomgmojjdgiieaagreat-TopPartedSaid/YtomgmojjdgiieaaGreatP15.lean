/- One step's soundness, a region's. No conditions. -/
import Derived.Test.YtomgmojjdgiieaaGreatP14
set_option linter.unusedSimpArgs false
set_option linter.unusedVariables false
set_option linter.unusedSectionVars false
namespace Go.Sx
open Go.RowKit
variable [Gls]
def SpY (P : Program) (K : Fr → Hp → Prop) (l : Nat) (Y : HSpec) : Prop :=
  ∀ (F : Fr) (args : List V) (h : Hp), K F h → (Y.go args h).c → ∀ (w : World) (A : Nat → Prop) (X : Refs) (vals : Array Value), Inv F w A X h → vals.size = args.length →
    (∀ (i : Nat) (c : V), args[i]? = some c → RV w A X c (vals.getD i und)) →
    ∃ fn tmps assign body, (Instr.yield l vals).run P w = .ok (.round l fn tmps assign body) w ∧ RoundIn Fence.wide 0 P l fn tmps assign body w fun e w' =>
      ∃ v A' X' F', e = .returned v ∧ K F' (Y.go args h).h ∧ F'.w0.heap.size = F.w0.heap.size ∧ Inv F' w' A' X' (Y.go args h).h ∧ Carry w A X w' A' X' ∧ RV w' A' X' (Y.go args h).v v
def SpI (P : Program) (K : Fr → Hp → Prop) (l : Nat) (Y : HSpec) : Prop :=
  ∀ (g : FuncId) (S : Nat → HSpec → HSpec), IterOK P g S → ∀ (F : Fr) (args : List V) (h : Hp), K F h → (h YS).blks = [] → (h YS).fl = false → ((S l Y).go args h).c → ∀ (w : World) (A : Nat → Prop) (X : Refs) (vals : Array Value), Inv F w A X h → vals.size = args.length →
    (∀ (i : Nat) (c : V), args[i]? = some c → RV w A X c (vals.getD i und)) →
    Calls P g vals w fun e w' =>
      ∃ v A' X' F', e = .returned v ∧ K F' ((S l Y).go args h).h ∧ F'.w0.heap.size = F.w0.heap.size ∧ Inv F' w' A' X' ((S l Y).go args h).h ∧ Carry w A X w' A' X' ∧ RV w' A' X' ((S l Y).go args h).v v
structure KOK (E : Env) (K : Fr → Hp → Prop) (rd : Option Nat) : Prop where
  ys : ∀ F h h', h' YS = h YS → K F h → K F h'
  sem : ∀ F d op ρ h, d < E.nt ∨ d = 0 → K F h → (sem { E with yl := none } d op ρ h).c → K F (sem { E with yl := none } d op ρ h).h
  frz : ∀ F k st, K F st.h → (frzK k st).1 → K F (frzK k st).2.h
  rf : E.yl = none → ∀ F h h', K F h → K F h'
  rd : ∀ l, rd = some l → ∀ F h, K F h → ¬ F.M l ∧ ∃ r, F.w0.heap[l]? = some (.loop r)
  sp : ∀ l Y, E.yl = some (l, Y) → SpY E.P K l Y ∧ SpI E.P K l Y
def R2 (K : Fr → Hp → Prop) (nt : Nat) (st : St) (a : Act) (w : World) : Prop := ∃ F, K F st.h ∧ R F nt st a w
theorem sem_cases (E : Env) (st : St) (d : Nat) (op : Op) (h : Hp) : sem E d op (ev2 st) h = sem { E with yl := none } d op (ev2 st) h ∨
    ∃ f args ats, op = .call ⟨.value f, args, ats⟩ ∧ ((∃ l, ev2 st f = .yld l) ∨ ∃ g caps S, ev2 st f = .fn g caps ∧ E.fn g = some (.iter S)) := by
  cases op with
  | call c =>
    obtain ⟨callee, args, ats⟩ := c
    cases callee with
    | value f =>
      cases hf : ev2 st f with
      | yld l => exact .inr ⟨f, args, ats, rfl, .inl ⟨l, hf⟩⟩
      | fn g caps =>
        cases hg : E.fn g with
        | none => left; simp only [sem, hf, sCall, callF, preZ, hg]
        | some S =>
          cases S with
          | iter S => exact .inr ⟨f, args, ats, rfl, .inr ⟨g, caps, S, hf, hg⟩⟩
          | _ => left; simp only [sem, hf, sCall, callF, preZ, hg]
      | _ => left; simp only [sem, hf, sCall, preZ]
    | builtin b => left; cases b <;> rfl
    | invoke r m => left; rfl
  | makeFunc fn first caps => left; cases fn <;> rfl
  | _ => left; rfl
section
variable {F : Fr} {w : World} {A : Nat → Prop} {X : Refs} {h : Hp}
omit [Gls] in
theorem RV.yld_inv {l : Nat} {u : Value} (h : RV w A X (.yld l) u) : u = .func (.yield l) #[] #[] := by
  cases h with
  | pure h => cases h; rfl
theorem special_sound {E : Env} (hT : TblOK E) {K : Fr → Hp → Prop} {rd : Option Nat} (hK : KOK E K rd) {n : Nat} {dst : Option Tmp} {f : Operand} {args : Array Operand} {ats : Array TypeId} {ty : TypeId} {pos : String} {after : Array Edge} {guard : Option (Nat × Bool)} {a : Act} {st : St} {d : Nat}
    {next : Act → World → Prop} {Q : Exit → Act → World → Prop} (hF : K F h) (hI : Inv F w A X h)
    (hv : ∀ x, (ev st x).1 = true → RV w A X (ev2 st x) (a.eval x)) (hok : valid st (.call ⟨.value f, args, ats⟩)) (hc : (sem E d (.call ⟨.value f, args, ats⟩) (ev2 st) h).c)
    (hs : (∃ l, ev2 st f = .yld l) ∨ ∃ g caps S, ev2 st f = .fn g caps ∧ E.fn g = some (.iter S))
    (hn : ∀ v w' A' X' F', K F' (sem E d (.call ⟨.value f, args, ats⟩) (ev2 st) h).h → F'.w0.heap.size = F.w0.heap.size → Inv F' w' A' X' (sem E d (.call ⟨.value f, args, ats⟩) (ev2 st) h).h → Carry w A X w' A' X' → RV w' A' X' (sem E d (.call ⟨.value f, args, ats⟩) (ev2 st) h).v v → next (a.put dst v) w') :
    (⟨dst, .call ⟨.value f, args, ats⟩, ty, pos, after, guard⟩ : Oper).wpIn (wideR rd) n E.P a w next Q := by
  refine ⟨fun _ _ => trivial, ?_⟩
  rw [Oper.semAt_eq _ _ _ (fun c e => by cases e)]
  simp only [valid] at hok
  have hf := hv f hok.1
  have hmap := map_get hv hok.2
  simp only [sem] at hc hn
  rcases hs with ⟨l, hl⟩ | ⟨g, caps, S, hg, hS⟩
  · rw [hl] at hf hc hn
    have hfu := hf.yld_inv
    simp only [sCall, preZ] at hc hn
    cases hy : E.yl with
    | none => rw [hy] at hc; exact hc.elim
    | some p =>
      obtain ⟨l', Y⟩ := p
      rw [hy] at hc hn
      simp only at hc hn
      by_cases hll : l = l'
      · subst hll
        rw [if_pos rfl] at hc hn
        have hsz : (args.map a.eval).size = (args.toList.map (ev2 st)).length := by simp
        have hargs : ∀ (i : Nat) (c : V), (args.toList.map (ev2 st))[i]? = some c → RV w A X c ((args.map a.eval).getD i und) := by
          intro i c hi
          have hlt : i < args.size := by have := (List.getElem?_eq_some_iff.1 hi).1; simpa using this
          have e : (args.map a.eval).getD i und = a.eval args[i] := by simp [Array.getD_eq_getD_getElem?, hlt]
          rw [e]
          exact hmap i c _ hi (by simp [hlt])
        obtain ⟨fn, tmps, assign, body, hrun, hround⟩ := (hK.sp _ _ hy).1 F _ h hF hc w A X _ hI hsz hargs
        have hex : (execOp a.eval ⟨dst, .call ⟨.value f, args, ats⟩, ty, pos, after, guard⟩).run E.P w = .ok (.round l fn tmps assign body) w := by
          simp only [execOp, resolve, hfu, Deferred.ofValue, Sem.run_bind, Sem.run_pure, Result.andThen_ok, invoke, Array.empty_append, Array.append_empty]
          first | exact hrun | (simp only [hrun, Result.andThen_ok, Sem.run_pure])
        rw [hex, Oper.uponIn_round]
        refine ⟨(fun h => by cases h), roundIn_wideR (hround.mono ?_)⟩
        rintro e w' ⟨v, A', X', F', rfl, h1, h2, h3, h4, h5⟩
        exact hn v w' A' X' F' h1 h2 h3 h4 h5
      · rw [if_neg hll] at hc; exact hc.elim
  · rw [hg] at hf hc hn
    obtain ⟨us, hfu, hl, hcap⟩ := hf.fn_inv
    simp only [sCall, callF, preZ, hS] at hc hn
    cases hy : E.yl with
    | none => rw [hy] at hc; exact hc.elim
    | some p =>
      obtain ⟨l', Y⟩ := p
      rw [hy] at hc hn
      simp only at hc hn
      obtain ⟨⟨hc1, hc2⟩, hc3⟩ := hc
      have hsz : ((#[] : Array Value) ++ args.map a.eval ++ us).size = (args.toList.map (ev2 st) ++ caps).length := by simp [hl]
      have hargs : ∀ (i : Nat) (c : V), (args.toList.map (ev2 st) ++ caps)[i]? = some c → RV w A X c (((#[] : Array Value) ++ args.map a.eval ++ us).getD i und) := by
        intro i c hi
        rw [List.getElem?_append] at hi
        split at hi
        · rename_i hlt
          have hlt' : i < args.size := by simpa using hlt
          have e : ((#[] : Array Value) ++ args.map a.eval ++ us).getD i und = a.eval args[i] := by
            simp [Array.getD_eq_getD_getElem?, Array.getElem?_append, hlt']
          rw [e]
          exact hmap i c _ hi (by simp [hlt'])
        · rename_i hge
          have hge' : args.size ≤ i := by simpa using hge
          have e : ((#[] : Array Value) ++ args.map a.eval ++ us).getD i und = us.getD (i - args.size) und := by
            simp only [Array.getD_eq_getD_getElem?, Array.empty_append]
            rw [Array.getElem?_append, if_neg (by simp; omega)]
            simp
          rw [e]
          exact hcap (i - args.size) c (by simpa using hi)
      have hfn := hT g _ hS
      have hex : (execOp a.eval ⟨dst, .call ⟨.value f, args, ats⟩, ty, pos, after, guard⟩).run E.P w = .ok (.enter g ((#[] : Array Value) ++ args.map a.eval ++ us)) w := by
        simp only [execOp, resolve, hfu, Deferred.ofValue, Sem.run_bind, Sem.run_pure, Result.andThen_ok, invoke, hfn.call]
      rw [hex, Oper.uponIn_enter]
      refine ⟨(fun h => by cases h), callsIn_wideR.2 (((hK.sp _ _ hy).2 g S (hfn.iter S rfl) F _ h hF hc1 hc2 hc3 w A X _ hI hsz hargs).mono ?_)⟩
      rintro e w' ⟨v, A', X', F', rfl, h1, h2, h3, h4, h5⟩
      exact hn v w' A' X' F' h1 h2 h3 h4 h5
theorem stepK {E : Env} (hT : TblOK E) {K : Fr → Hp → Prop} {rd : Option Nat} (hKK : KOK E K rd) {n : Nat} {ops : List Oper} {o : Oper} {a : Act} {st : St} {w : World} (hR : R2 K E.nt st a w) (hc : (step E ops o st).1) {next : Act → World → Prop} {Q : Exit → Act → World → Prop}
    (hK : ∀ a' w', R2 K E.nt (step E ops o st).2 a' w' → next a' w') :
    if Region.wanted o (yielded ops.toArray a.tmps) then o.wpIn (wideR rd) n E.P a w next Q else next (a.put o.dst undef) w := by
  obtain ⟨F, hF, ⟨A, X, hI, ht, hmk⟩, hsz⟩ := hR
  have hv : ∀ x, (ev st x).1 = true → RV w A X (ev2 st x) (a.eval x) := by
    intro x hx
    cases x with
    | tmp k => exact (ht k).1 hx
    | const v => exact .pure (pv_ofVal w A v)
    | global g =>
      show RV w A X ((Gls.G g).getD .top) (.pointer (some ⟨g, 0, none⟩))
      cases hG : Gls.G g with
      | none => exact .pure (.top _)
      | some v => exact .pure (hI.gl g v hG)
    | func f => exact .pure (.fn f [] #[] rfl (by simp))
  have core : ∀ (c : Prop) (v : V) (h' : Hp) (g : Bool), sem E (o.dst.getD 0) o.op (ev2 st) st.h = ⟨c, v, h'⟩ → dstOk E.nt o.dst → (g = true → valid st o.op ∧ c) → (∀ a' w', R2 K E.nt { t := upd st.t o.dst (g, v), h := hite g h' st.h } a' w' → next a' w') →
      (g = true → o.wpIn (wideR rd) n E.P a w next Q) ∧ (g = false → next (a.put o.dst undef) w) := by
    intro c v h' g hsem hd hgc hK
    constructor
    · intro hg
      subst hg
      obtain ⟨hok, hc'⟩ := hgc rfl
      have fin : ∀ v' w' A' X' F', K F' h' → F'.w0.heap.size = F.w0.heap.size → Inv F' w' A' X' h' → Carry w A X w' A' X' → RV w' A' X' v v' → next (a.put o.dst v') w' := by
        intro v' w' A' X' F' h1 h2 h3 h4 h5
        refine hK _ _ ⟨F', h1, ⟨A', X', h3, fun k => ?_, ?_⟩, by rw [put_size]; exact hsz⟩
        · simp only [upd_apply]
          rw [put_get (by rw [hsz]; exact hd)]
          by_cases hk : o.dst = some k
          · simp only [hk, if_true]; exact ⟨fun _ => h5, fun hh => by cases hh⟩
          · simp only [hk, if_false]; exact ⟨fun hh => h4.rv _ _ ((ht k).1 hh), (ht k).2⟩
        · rw [put_df, h2]; exact hmk.carry h4
      rcases sem_cases E st (o.dst.getD 0) o.op st.h with he | ⟨f, args, ats, ho, hs⟩
      · have hsem0 := he.symm.trans hsem
        have hc0 : (sem { E with yl := none } (o.dst.getD 0) o.op (ev2 st) st.h).c := by rw [hsem0]; exact hc'
        refine wp_wpIn (fun c e => by rw [e] at hc0; exact hc0.elim) (op_sound (E := { E with yl := none }) hT rfl hI hv hok hc0 fun v' w' A' X' hL hX hrv hI' => ?_)
        have hks := hKK.sem F (o.dst.getD 0) o.op (ev2 st) st.h (by
          cases ho : o.dst with
          | none => exact .inr rfl
          | some d => rw [ho] at hd; exact .inl hd) hF hc0
        rw [hsem0] at hrv hI' hks
        exact fin v' w' A' X' F hks rfl hI' (.of hL hX) hrv
      · obtain ⟨dst, op, ty, pos, after, guard⟩ := o
        simp only at ho hsem hok fin hd
        subst ho
        refine special_sound hT hKK hF hI hv hok (by rw [hsem]; exact hc') hs fun v' w' A' X' F' h1 h2 h3 h4 h5 => ?_
        rw [hsem] at h1 h3 h5
        exact fin v' w' A' X' F' h1 h2 h3 h4 h5
    · intro hg
      subst hg
      refine hK _ _ ⟨F, hF, ⟨A, X, hI, fun k => ?_, by rw [put_df]; exact hmk⟩, by rw [put_size]; exact hsz⟩
      simp only [upd_apply]
      rw [put_get (by rw [hsz]; exact hd)]
      by_cases hk : o.dst = some k
      · simp only [hk, if_true]; exact ⟨fun hh => (by cases hh), fun _ => trivial⟩
      · simp only [hk, if_false]; exact ht k
  unfold step at hc hK
  cases hsem : sem E (o.dst.getD 0) o.op (ev2 st) st.h with
  | mk c v h' =>
  rw [hsem] at hc hK
  cases hgd : o.guard with
  | none =>
    simp only [hgd, guardV] at hc hK
    have h1 := core c v h' true hsem hc.2.1 (fun _ => hc.2.2 trivial) hK
    rw [if_pos (by simp [Region.wanted, hgd])]
    exact h1.1 rfl
  | some jw =>
    obtain ⟨j, want⟩ := jw
    simp only [hgd, guardV] at hc hK
    cases hd : (ops[j]?).bind (·.dst) with
    | none => simp [hd] at hc
    | some dj =>
      simp only [hd] at hc hK
      cases htj : st.t dj with
      | mk cb xb =>
      simp only [htj] at hc hK
      rcases hgb : guardB cb xb want with ⟨gc, g⟩
      rw [hgb] at hc hK
      have h1 := core c v h' g hsem hc.2.1 hc.2.2 hK
      have htd := ht dj
      rw [htj] at htd
      have hd' : ((ops.toArray)[j]?).bind (·.dst) = some dj := by simpa using hd
      have hw : Region.wanted o (yielded ops.toArray a.tmps) = g := by
        cases cb with
        | false =>
          have hg : g = false := by
            have := congrArg (fun p : Prop × Bool => p.2) hgb
            exact this.symm
          have hy : yielded ops.toArray a.tmps j = none := by
            have hu := htd.2 rfl
            rw [Array.getD_eq_getD_getElem?] at hu
            unfold yielded
            rw [hd']
            simp only [Option.bind_some]
            cases hg : a.tmps[dj]? with
            | none => rfl
            | some x => rw [hg] at hu; simp only [Option.getD_some] at hu; subst hu; rfl
          simp only [Region.wanted, hgd, hy, hg]
          simp
        | true =>
          cases xb with
          | bool b =>
            have hg : g = (b == want) := by
              have := congrArg (fun p : Prop × Bool => p.2) hgb
              exact this.symm
            have hy : yielded ops.toArray a.tmps j = some b := by
              have hb := (htd.1 rfl).bool_inv
              have hlt : dj < a.tmps.size := by
                rcases Nat.lt_or_ge dj a.tmps.size with hh | hh
                · exact hh
                · simp [Array.getD_eq_getD_getElem?, Array.getElem?_eq_none hh, undef] at hb
              have hg : a.tmps[dj]? = some (.bool b) := by
                rw [Array.getD_eq_getD_getElem?, Array.getElem?_eq_getElem hlt, Option.getD_some] at hb
                rw [Array.getElem?_eq_getElem hlt, hb]
              unfold yielded
              rw [hd']
              simp only [Option.bind_some]
              rw [hg]
            simp only [Region.wanted, hgd, hy, hg]
            simp
          | _ => exact absurd hc.1 (by have := congrArg (fun p : Prop × Bool => p.1) hgb; rw [← this]; exact id)
      rw [hw]
      cases hg : g with
      | true => simp only [if_true]; exact h1.1 hg
      | false => simp only [Bool.false_eq_true, if_false]; exact h1.2 hg
theorem runK {E : Env} (hT : TblOK E) {K : Fr → Hp → Prop} {rd : Option Nat} (hKK : KOK E K rd) {n : Nat} {ops : List Oper} {Q : Exit → Act → World → Prop} : ∀ (l : List Oper) (st : St) (a : Act) (w : World), R2 K E.nt st a w → (runL E ops l st).1 →
    (∀ a' w', R2 K E.nt (runL E ops l st).2 a' w' → Q .normal a' w') → wpListIn (wideR rd) n E.P ops.toArray Q l a w
  | [], st, a, w, hR, _, hQ => hQ a w hR
  | o :: l, st, a, w, hR, hc, hQ => by
    unfold wpListIn
    have hs : ∃ c st', step E ops o st = (c, st') := ⟨_, _, rfl⟩
    obtain ⟨c, st', hs⟩ := hs
    have hr : ∃ c st'', runL E ops l st' = (c, st'') := ⟨_, _, rfl⟩
    obtain ⟨c', st'', hr⟩ := hr
    simp only [runL, hs, hr] at hc hQ
    have := stepK hT hKK (n := n) (next := wpListIn (wideR rd) n E.P ops.toArray Q l) (Q := Q) hR (by rw [hs]; exact hc.1) fun a' w' hR' => (by
      rw [hs] at hR'
      exact runK hT hKK l st' a' w' hR' (by rw [hr]; exact hc.2) (by rw [hr]; exact hQ))
    split at this
    · rename_i hw; rw [if_pos hw]; exact this
    · rename_i hw; rw [if_neg hw]; exact ⟨fun _ _ => trivial, this⟩
end
end Go.Sx
