/- A part of a proof; no conditions. -/
import Derived.Test.YtomgmojjdgiieaaGreatP19
import Derived.WalkKit
set_option linter.unusedSimpArgs false
set_option linter.unusedVariables false
set_option linter.unusedSectionVars false
section
/- From the walks to the contracts of functions; tables. No conditions. -/
set_option linter.unusedSimpArgs false
namespace Go.Sx
open Go.RowKit
variable [Gls]
def tbl (l : List (Nat × Spec)) (f : Nat) : Option Spec := (l.find? fun p => p.1 == f).map (·.2)
@[simp] theorem tbl_nil (f : Nat) : tbl [] f = none := rfl
@[simp] theorem tbl_cons (g : Nat) (S : Spec) (l : List (Nat × Spec)) (f : Nat) : tbl ((g, S) :: l) f = if g = f then some S else tbl l f := by
  simp only [tbl, List.find?_cons]
  by_cases h : g = f
  · subst h; simp
  · have : (g == f) = false := by simpa using h
    simp [this, h]
def LOK (P : Program) (l : List (Nat × Spec)) : Prop := ∀ p ∈ l, FnOK P p.1 p.2
theorem LOK.nil {P : Program} : LOK P [] := fun p h => by cases h
theorem LOK.cons {P : Program} {f : Nat} {S : Spec} {l : List (Nat × Spec)} (h : FnOK P f S) (k : LOK P l) : LOK P ((f, S) :: l) := by
  intro p hp
  rcases List.mem_cons.1 hp with rfl | hp
  · exact h
  · exact k p hp
theorem LOK.tbl {E : Env} {l : List (Nat × Spec)} (hE : E.fn = tbl l) (h : LOK E.P l) : TblOK E := by
  intro f S hf
  rw [hE] at hf
  unfold Sx.tbl at hf
  cases hx : l.find? fun p => p.1 == f with
  | none => simp [hx] at hf
  | some p =>
    simp [hx] at hf
    subst hf
    have h1 := h p (List.mem_of_find?_eq_some hx)
    have h2 := List.find?_some hx
    simp only [beq_iff_eq] at h2
    rw [← h2]; exact h1
omit [Gls] in
theorem run_call {P : Program} {f : FuncId} {fn : Func} {c : Code} (hf : P.funcs[f]? = some fn) (hn : (fn.name == "runtime.NumGoroutine") = false) (hb : fn.body = some c) (args : Array Value) (w : World) : (callFunc f args).run P w = .ok (.enter f args) w := by
  unfold callFunc
  simp only [Sem.run_bind, run_program, Result.andThen_ok, hf, hn, hb, Option.isNone_some, Bool.false_eq_true, if_false, Sem.run_pure]
theorem pure_fn {E : Env} {l : List (Nat × Spec)} (hE : E.fn = tbl l) (hl : LOK E.P l) {ok : Alts} {f : FuncId} {fn : Func} {S : PSpec} (hf : E.P.funcs[f]? = some fn) (hn : (fn.name == "runtime.NumGoroutine") = false) (hbs : fn.body.isSome = true) (hok : drawsOk E ok (fn.body.getD .skip) = true) (hnt : fn.ntmps = E.nt) (hlen : ∀ d, S.pre d → (S.enc d).length ≤ E.nt)
    (h : PureBody E ok fn S) : FnOK E.P f (.pure S) := by
  obtain ⟨c, hc⟩ := Option.isSome_iff_exists.1 hbs
  rw [hc] at hok
  exact { call := run_call hf hn hc, pure := fun S' hS => (by cases hS; exact pure_ok (hl.tbl hE) hf hc hok hnt hlen h), heap := fun S' hS => (by cases hS), iter := fun S' hS => (by cases hS) }
theorem heap_fn {E : Env} {l : List (Nat × Spec)} (hE : E.fn = tbl l) (hl : LOK E.P l) {ok : Alts} {f : FuncId} {fn : Func} {S : HSpec} (hf : E.P.funcs[f]? = some fn) (hn : (fn.name == "runtime.NumGoroutine") = false) (hbs : fn.body.isSome = true) (hok : drawsOk E ok (fn.body.getD .skip) = true) (hnt : fn.ntmps = E.nt) (hlen : ∀ args h, (S.go args h).c → args.length ≤ E.nt)
    (h : HeapBody E ok fn S) (hyl : E.yl = none := by rfl) : FnOK E.P f (.heap S) := by
  obtain ⟨c, hc⟩ := Option.isSome_iff_exists.1 hbs
  rw [hc] at hok
  exact { call := run_call hf hn hc, pure := fun S' hS => (by cases hS), heap := fun S' hS => (by cases hS; exact heap_ok (hl.tbl hE) hf hc hok hnt hlen h hyl), iter := fun S' hS => (by cases hS) }
theorem iter_fn {E : Env} {l : List (Nat × Spec)} (hE : E.fn = tbl l) (hl : LOK E.P l) {ok : Alts} {f : FuncId} {fn : Func} {S : Nat → HSpec → HSpec} (hf : E.P.funcs[f]? = some fn) (hn : (fn.name == "runtime.NumGoroutine") = false) (hbs : fn.body.isSome = true) (hok : ∀ l Y, drawsOk { E with yl := some (l, Y) } ok (fn.body.getD .skip) = true) (hnt : fn.ntmps = E.nt) (hlen : ∀ l Y args h, ((S l Y).go args h).c → args.length ≤ E.nt)
    (hkp : KeepY E) (h : IterBody E ok fn S) (hyl : E.yl = none := by rfl) (hkey : E.key + E.nt < YS := by decide) : FnOK E.P f (.iter S) := by
  obtain ⟨c, hc⟩ := Option.isSome_iff_exists.1 hbs
  rw [hc] at hok
  exact { call := run_call hf hn hc, pure := fun S' hS => (by cases hS), heap := fun S' hS => (by cases hS), iter := fun S' hS => (by cases hS; exact iter_ok (hl.tbl hE) hf hc hok hnt hlen hyl (fun d hd => by omega) hkp h) }
def V.peek : V → V
  | .ip _ els e j => (els.getD e []).getD j .top
  | _ => .top
def V.caps : V → List V
  | .fn _ cs => cs
  | _ => []
def V.cs : V → List V
  | .agg cs => cs
  | _ => []
omit [Gls] in
theorem rowInt_ri : rowInt ∘ ri = id := by funext n; rfl
@[simp] theorem map_rowInt (l : List Int) : (l.map ri).map rowInt = l := by rw [List.map_map, rowInt_ri, List.map_id]
@[simp] theorem map_rowInt' (l : List Int) : l.map (rowInt ∘ ri) = l := by rw [rowInt_ri, List.map_id]
attribute [simp] V.peek V.caps V.cs V.toInt V.toBool V.toInts V.rows rowInt rawV rawsV rawR
end Go.Sx
end
section
/- Loops over functions: rules. No conditions. -/
set_option linter.unusedSimpArgs false
namespace Go.Sx
open Go.RowKit
variable [Gls]
omit [Gls] in
theorem hfl_ys (h : Hp) (b : Bool) : hfl h b YS = { base := hnext h YS, blks := [], fl := b, mps := (h YS).mps } := by simp [hfl]
omit [Gls] in
theorem hfl_ne (h : Hp) (b : Bool) {k : Nat} (hk : k ≠ YS) : hfl h b k = h k := by simp [hfl, hk]
omit [Gls] in
theorem hfl_self {h : Hp} (h1 : (h YS).blks = []) (h2 : (h YS).fl = false) : hfl h false = h := by
  funext k
  unfold hfl
  split
  · rename_i e
    subst e
    cases hh : h YS with
    | mk base blks fl mps =>
      rw [hh] at h1 h2
      simp only at h1 h2
      subst h1 h2
      simp [hnext, hh]
  · rfl
omit [Gls] in
theorem hps_app (L L' : List (Nat × Site)) (H : Hp) : hps L (hps L' H) = hps (L ++ L') H := by
  funext k
  induction L with
  | nil => rfl
  | cons p L ih =>
    obtain ⟨a, S⟩ := p
    simp only [List.cons_append, hps]
    split
    · rfl
    · exact ih
omit [Gls] in
theorem hps_mem {L : List (Nat × Site)} {H H' : Hp} {k : Nat} (h : k ∈ L.map (·.1)) : hps L H k = hps L H' k := by
  induction L with
  | nil => simp at h
  | cons p L ih =>
    obtain ⟨a, S⟩ := p
    simp only [hps]
    split
    · rfl
    · rename_i hne
      refine ih ?_
      simp only [List.map_cons, List.mem_cons] at h
      rcases h with h | h
      · exact absurd h hne
      · exact h
omit [Gls] in
theorem hps_self {L : List (Nat × Site)} {H : Hp} (h : ∀ k ∈ L.map (·.1), H k = hps L noH k) : hps L H = H := by
  funext k
  by_cases hk : k ∈ L.map (·.1)
  · rw [h k hk]; exact hps_mem hk
  · exact hps_not hk
structure Loc (Y : HSpec) (own ro : List Nat) : Prop where
  loc : ∀ (L : List (Nat × Site)), (∀ k ∈ L.map (·.1), k ∈ own) → ∀ x h, (Y.go x h).c → (Y.go x (hps L h)).c ∧ (Y.go x (hps L h)).v = (Y.go x h).v ∧ (Y.go x (hps L h)).h = hps L (Y.go x h).h
  ro : ∀ x h, (Y.go x h).c → ∀ k ∈ ro, (Y.go x h).h k = h k
  vb : ∀ x h, (Y.go x h).c → ∃ b, (Y.go x h).v = .bool b
  ys : ∀ x h, (Y.go x h).c → ((h YS).blks = [] ∧ (h YS).fl = false) ∧ ((Y.go x h).v = .bool true → ((Y.go x h).h YS) = h YS)
omit [Gls] in
theorem Loc.go {Y : HSpec} {own ro : List Nat} (hL : Loc Y own ro) {x : List V} {h : Hp} (hc : (Y.go x h).c) {b : Bool} (hv : (Y.go x h).v = .bool b) (L : List (Nat × Site)) (hk : (L.map (·.1)).all (fun k => own.contains k) = true := by first | rfl | simp) :
    Y.go x (hps L h) = ⟨True, .bool b, hps L (Y.go x h).h⟩ := by
  obtain ⟨h1, h2, h3⟩ := hL.loc L (fun k hm => by have := List.all_eq_true.1 hk k hm; simpa [List.contains_eq_mem] using this) x h hc
  cases hy : Y.go x (hps L h) with
  | mk c v h' =>
    rw [hy] at h1 h2 h3
    simp only at h1 h2 h3
    rw [h2, hv, h3, eq_true h1]
def feed (Y : HSpec) : List (List V) → Hp → Prop × Hp
  | [], h => (True, h)
  | x :: r, h => match Y.go x h with
    | ⟨c, .bool true, h'⟩ => (c ∧ (feed Y r h').1, (feed Y r h').2)
    | ⟨c, .bool false, h'⟩ => (c, h')
    | ⟨_, _, h'⟩ => (False, h')
omit [Gls] in
theorem feed_cons (Y : HSpec) (x : List V) (r : List (List V)) (h : Hp) : feed Y (x :: r) h = match Y.go x h with
    | ⟨c, .bool true, h'⟩ => (c ∧ (feed Y r h').1, (feed Y r h').2)
    | ⟨c, .bool false, h'⟩ => (c, h')
    | ⟨_, _, h'⟩ => (False, h') := rfl
omit [Gls] in
theorem feed_step {Y : HSpec} {x : List V} {r : List (List V)} {h : Hp} (hf : (feed Y (x :: r) h).1) : (Y.go x h).c ∧ ∃ b, (Y.go x h).v = .bool b ∧
    (b = true → (feed Y r (Y.go x h).h).1 ∧ (feed Y (x :: r) h).2 = (feed Y r (Y.go x h).h).2) ∧ (b = false → (feed Y (x :: r) h).2 = (Y.go x h).h) := by
  rw [feed_cons] at hf ⊢
  cases hy : Y.go x h with
  | mk c v h' =>
    rw [hy] at hf
    cases v with
    | bool b =>
      cases b with
      | true => exact ⟨hf.1, true, rfl, fun _ => ⟨hf.2, rfl⟩, fun e => by cases e⟩
      | false => exact ⟨hf, false, rfl, (fun e => by cases e), fun _ => rfl⟩
    | _ => exact hf.elim
def itS (own ro : List Nat) (dec : List V → Hp → Prop × List (List V)) (l : Nat) (Y : HSpec) : HSpec where
  go args h := match args with
    | .yld l' :: caps => ⟨l' = l ∧ Loc Y own ro ∧ (∀ k ∈ own, h k = { base := (h k).base, blks := [] }) ∧ (dec caps h).1 ∧ (feed Y (dec caps h).2 h).1, .tup [], hps (own.map fun k => (k, { base := (h k).base + 1000000, blks := [] })) (feed Y (dec caps h).2 h).2⟩
    | _ => ⟨False, .top, h⟩
theorem its_inv {own ro : List Nat} {dec : List V → Hp → Prop × List (List V)} {l : Nat} {Y : HSpec} {args : List V} {h : Hp} (hc : ((itS own ro dec l Y).go args h).c) : ∃ caps, args = .yld l :: caps ∧ Loc Y own ro ∧ (∀ k ∈ own, h k = { base := (h k).base, blks := [] }) ∧ (dec caps h).1 ∧ (feed Y (dec caps h).2 h).1 ∧
    ((itS own ro dec l Y).go args h).v = .tup [] ∧ ((itS own ro dec l Y).go args h).h = hps (own.map fun k => (k, { base := (h k).base + 1000000, blks := [] })) (feed Y (dec caps h).2 h).2 := by
  match args, hc with
  | .yld l' :: caps, hc =>
    obtain ⟨rfl, h2, h3, h4, h5⟩ := hc
    exact ⟨caps, rfl, h2, h3, h4, h5, rfl, rfl⟩
section
variable {σ : Type} (LC : σ → List (Nat × Site)) (keys : List Nat) (pre : σ → List V → Prop) (go : σ → List V → Bool) (nxt : σ → List V → σ)
def Mt (s : σ) (h : Hp) : Prop := ∀ k ∈ keys, h k = hps (LC s) noH k
open Classical in
noncomputable def mkY : HSpec where
  go args h := if hs : ∃ s, Mt LC keys s h then ⟨((h YS).blks = [] ∧ (h YS).fl = false) ∧ pre hs.choose args, .bool (go hs.choose args), hfl (hps (LC (nxt hs.choose args)) h) (!go hs.choose args)⟩ else ⟨False, .top, h⟩
def runS : σ → List (List V) → Prop × Bool × σ
  | s, [] => (True, true, s)
  | s, x :: r => match go s x with
    | true => (pre s x ∧ (runS (nxt s x) r).1, (runS (nxt s x) r).2)
    | false => (pre s x, false, nxt s x)
variable {LC keys pre go nxt}
variable (inj : ∀ s s', (∀ k ∈ keys, hps (LC s) noH k = hps (LC s') noH k) → s = s')
include inj
omit [Gls] in
theorem mkY_go {s : σ} {h : Hp} (hm : Mt LC keys s h) (x : List V) : (mkY LC keys pre go nxt).go x h = ⟨((h YS).blks = [] ∧ (h YS).fl = false) ∧ pre s x, .bool (go s x), hfl (hps (LC (nxt s x)) h) (!go s x)⟩ := by
  have hs : ∃ s, Mt LC keys s h := ⟨s, hm⟩
  have e : hs.choose = s := inj _ _ fun k hk => (hs.choose_spec k hk).symm.trans (hm k hk)
  simp only [mkY, dif_pos hs, e]
omit [Gls] in
theorem mkY_c {x : List V} {h : Hp} (hc : ((mkY LC keys pre go nxt).go x h).c) : ∃ s, Mt LC keys s h ∧ ((h YS).blks = [] ∧ (h YS).fl = false) ∧ pre s x := by
  by_cases hs : ∃ s, Mt LC keys s h
  · obtain ⟨s, hm⟩ := hs
    rw [mkY_go inj hm] at hc
    exact ⟨s, hm, hc⟩
  · simp only [mkY, dif_neg hs] at hc
omit [Gls] in
theorem mkY_loc (hkeys : ∀ s, (LC s).map (·.1) = keys) {own ro : List Nat} (hd : keys.all (fun k => !own.contains k && !ro.contains k && !(k == YS)) = true) (ho : own.contains YS = false) (hr : ro.contains YS = false) : Loc (mkY LC keys pre go nxt) own ro := by
  have hd' : ∀ k ∈ keys, k ∉ own ∧ k ∉ ro ∧ k ≠ YS := fun k hk => by
    have := List.all_eq_true.1 hd k hk
    simp only [Bool.and_eq_true, Bool.not_eq_true', List.contains_eq_mem, decide_eq_false_iff_not, beq_eq_false_iff_ne] at this
    exact ⟨this.1.1, this.1.2, this.2⟩
  have hoy : YS ∉ own := by simpa [List.contains_eq_mem] using ho
  have hry : YS ∉ ro := by simpa [List.contains_eq_mem] using hr
  have hLy : ∀ s, YS ∉ (LC s).map (·.1) := fun s hm => by rw [hkeys] at hm; exact (hd' _ hm).2.2 rfl
  refine ⟨fun L hL x h hc => ?_, fun x h hc k hk => ?_, fun x h hc => ?_, fun x h hc => ?_⟩
  · obtain ⟨s, hm, hy, hp⟩ := mkY_c inj hc
    have hLn : ∀ k ∈ keys, k ∉ L.map (·.1) := fun k hk hm => (hd' k hk).1 (hL k hm)
    have hm' : Mt LC keys s (hps L h) := fun k hk => by rw [hps_not (hLn k hk)]; exact hm k hk
    have hyL : hps L h YS = h YS := hps_not fun hm => hoy (hL _ hm)
    rw [mkY_go inj hm, mkY_go inj hm']
    refine ⟨by rw [hyL]; exact ⟨hy, hp⟩, rfl, ?_⟩
    funext k
    dsimp only
    by_cases hk : k = YS
    · rw [hk]
      have hyn : YS ∉ L.map (·.1) := fun hm => hoy (hL _ hm)
      rw [hps_not hyn, hfl_ys, hfl_ys]
      simp only [hnext, hps_not (hLy _), hyL]
    · rw [hfl_ne _ _ hk]
      by_cases hkL : k ∈ L.map (·.1)
      · have : k ∉ (LC (nxt s x)).map (·.1) := by rw [hkeys]; exact fun hm => hLn k hm hkL
        rw [hps_not this]
        exact hps_mem hkL
      · rw [hps_not hkL, hfl_ne _ _ hk]
        by_cases hkC : k ∈ (LC (nxt s x)).map (·.1)
        · exact hps_mem hkC
        · rw [hps_not hkC, hps_not hkC, hps_not hkL]
  · obtain ⟨s, hm, hy, hp⟩ := mkY_c inj hc
    rw [mkY_go inj hm]
    have hky : k ≠ YS := fun e => hry (by rw [← e]; exact hk)
    dsimp only
    rw [hfl_ne _ _ hky, hps_not (by rw [hkeys]; exact fun hm => (hd' k hm).2.1 hk)]
  · obtain ⟨s, hm, hy, hp⟩ := mkY_c inj hc
    rw [mkY_go inj hm]
    exact ⟨_, rfl⟩
  · obtain ⟨s, hm, hy, hp⟩ := mkY_c inj hc
    refine ⟨hy, ?_⟩
    rw [mkY_go inj hm]
    intro hv
    simp only [V.bool.injEq] at hv
    simp only [hv, Bool.not_true]
    rw [hfl_self (by rw [hps_not (hLy _)]; exact hy.1) (by rw [hps_not (hLy _)]; exact hy.2), hps_not (hLy _)]
omit [Gls] in
theorem runS_feed (hkeys : ∀ s, (LC s).map (·.1) = keys) (hky : YS ∉ keys) : ∀ (xs : List (List V)) (s : σ) (h : Hp), Mt LC keys s h → (h YS).blks = [] → (h YS).fl = false → (runS pre go nxt s xs).1 →
    (feed (mkY LC keys pre go nxt) xs h).1 ∧ (feed (mkY LC keys pre go nxt) xs h).2 = hfl (hps (LC (runS pre go nxt s xs).2.2) h) (!(runS pre go nxt s xs).2.1)
  | [], s, h, hm, h1, h2, _ => by
    refine ⟨trivial, ?_⟩
    simp only [feed, runS, Bool.not_true]
    rw [hps_self (fun k hk => hm k (by rw [← hkeys s]; exact hk)), hfl_self h1 h2]
  | x :: r, s, h, hm, h1, h2, hr => by
    have hLy : ∀ s, YS ∉ (LC s).map (·.1) := fun s => by rw [hkeys]; exact hky
    rw [feed_cons, mkY_go inj hm]
    cases hg : go s x with
    | false =>
      simp only [runS, hg] at hr ⊢
      exact ⟨⟨⟨h1, h2⟩, hr⟩, by simp⟩
    | true =>
      simp only [runS, hg] at hr ⊢
      simp only [Bool.not_true]
      have e1 : hps (LC (nxt s x)) h YS = h YS := hps_not (hLy _)
      rw [hfl_self (by rw [e1]; exact h1) (by rw [e1]; exact h2)]
      have hm' : Mt LC keys (nxt s x) (hps (LC (nxt s x)) h) := fun k hk => hps_mem (by rw [hkeys]; exact hk)
      obtain ⟨g1, g2⟩ := runS_feed hkeys hky r (nxt s x) (hps (LC (nxt s x)) h) hm' (by rw [e1]; exact h1) (by rw [e1]; exact h2) hr.2
      refine ⟨⟨⟨⟨h1, h2⟩, hr.1⟩, g1⟩, ?_⟩
      rw [g2]
      congr 1
      funext k
      by_cases hk : k ∈ keys
      · exact hps_mem (by rw [hkeys]; exact hk)
      · rw [hps_not (by rw [hkeys]; exact hk), hps_not (by rw [hkeys]; exact hk), hps_not (by rw [hkeys]; exact hk)]
theorem awp_range (hkeys : ∀ s, (LC s).map (·.1) = keys) {E : Env} {ok : Alts} {g : Operand} {ps : Array Tmp} {assign body : Code} {t : Nat → Bool × V} {h : Hp} {Q : Ex → St → Prop}
    (s0 : σ) (e0 : Ex) {own ro : List Nat} {dec : List V → Hp → Prop × List (List V)} {it : Nat} {caps : List V} (xs : List (List V))
    (h1 : ev { t := t, h := h } g = (true, .fn it caps)) (h2 : E.fn it = some (.iter (itS own ro dec))) (hps' : (ps.toList.all fun p => decide (p < E.nt)) = true)
    (hd : keys.all (fun k => !own.contains k && !ro.contains k && !(k == YS)) = true) (ho : own.contains YS = false) (hr : ro.contains YS = false)
    (hys : (h YS).blks = [] ∧ (h YS).fl = false) (hm : Mt LC keys s0 h) (hfr : ∀ k ∈ own, h k = { base := (h k).base, blks := [] }) (hdec : (dec caps h).1 ∧ (dec caps h).2 = xs)
    (hrun : (runS pre go nxt s0 xs).1)
    (hround : ∀ s x hb, pre s x → (hb YS).blks = [] → (hb YS).fl = false → x.length = ps.size ∧ awp E ok assign { t := setT t ps.toList x, h := hps (LC s) hb } fun e st1 => match e with
        | .normal => awp E ok body st1 fun e st2 => match e with
          | .normal => go s x = true ∧ HLe st2.h (hps (LC (nxt s x)) hb)
          | .ret => e0 = .ret ∧ go s x = false ∧ HLe st2.h (hps (LC (nxt s x)) hb)
          | .exit id => e0 = .exit id ∧ go s x = false ∧ HLe st2.h (hps (LC (nxt s x)) hb)
        | _ => False)
    (hQ1 : (runS pre go nxt s0 xs).2.1 = true → Q .normal { t := t, h := hps (own.map fun k => (k, { base := (h k).base + 1000000, blks := [] })) (hps (LC (runS pre go nxt s0 xs).2.2) h) })
    (hQ2 : (runS pre go nxt s0 xs).2.1 = false → e0 ≠ .normal ∧ Q e0 { t := t, h := hps (own.map fun k => (k, { base := (h k).base + 1000000, blks := [] })) (hps (LC (runS pre go nxt s0 xs).2.2) h) })
    (hyl : E.yl = none := by rfl) : awp E ok (.rangeFunc g ps assign body) { t := t, h := h } Q := by
  have hd' : ∀ k ∈ keys, k ∉ own ∧ k ∉ ro ∧ k ≠ YS := fun k hk => by
    have := List.all_eq_true.1 hd k hk
    simp only [Bool.and_eq_true, Bool.not_eq_true', List.contains_eq_mem, decide_eq_false_iff_not, beq_eq_false_iff_ne] at this
    exact ⟨this.1.1, this.1.2, this.2⟩
  have hky : YS ∉ keys := fun hm => (hd' _ hm).2.2 rfl
  have hoy : YS ∉ own := by simpa [List.contains_eq_mem] using ho
  have hLy : ∀ s, YS ∉ (LC s).map (·.1) := fun s => by rw [hkeys]; exact hky
  have hflm : ∀ (a b : Hp) (x : Bool), HLe a b → HLe (hfl a x) (hfl b x) := by
    intro a b x hab
    refine ⟨⟨fun s i B hg => ?_, fun s => ?_⟩, ?_, fun s => ?_⟩
    · rw [hget_hfl] at hg ⊢
      split at hg
      · cases hg
      · rename_i hne; rw [if_neg hne]; exact hab.1.1 s i B hg
    · rw [hnext_hfl, hnext_hfl]; exact hab.1.2 s
    · simp only [hfl, if_true]
      simp only [hnext, hab.2.1]
    · rw [mps_hfl, mps_hfl]; exact hab.2.2 s
  simp only [awp]
  refine ⟨hyl, it, caps, itS own ro dec, mkY LC keys pre go nxt, e0, ⟨⟨h1, h2⟩, hps'⟩, fun x hb hc => ?_, fun l => ?_⟩
  · obtain ⟨s, hm, hy, hp⟩ := mkY_c inj hc
    obtain ⟨r1, r2⟩ := hround s x hb hp hy.1 hy.2
    refine ⟨hy, r1, ?_⟩
    have he : hps (LC s) hb = hb := hps_self fun k hk => hm k (by rw [← hkeys s]; exact hk)
    rw [he] at r2
    rw [mkY_go inj hm]
    refine awp_mono assign _ _ _ (fun e st1 hh => ?_) r2
    cases e with
    | normal =>
      refine awp_mono body _ _ _ (fun e st2 hh => ?_) hh
      cases e with
      | normal => exact ⟨by rw [hh.1], by rw [hh.1]; exact hflm _ _ _ hh.2⟩
      | ret => exact ⟨hh.1, by rw [hh.2.1], by rw [hh.2.1]; exact hflm _ _ _ hh.2.2⟩
      | exit id => exact ⟨hh.1, by rw [hh.2.1], by rw [hh.2.1]; exact hflm _ _ _ hh.2.2⟩
    | _ => exact hh.elim
  · rw [hfl_self hys.1 hys.2]
    obtain ⟨f1, f2⟩ := runS_feed inj hkeys hky xs s0 h hm hys.1 hys.2 hrun
    have hloc := mkY_loc (pre := pre) (go := go) (nxt := nxt) inj hkeys hd ho hr
    have hgo : (itS own ro dec l (mkY LC keys pre go nxt)).go (.yld l :: caps) h = ⟨l = l ∧ Loc (mkY LC keys pre go nxt) own ro ∧ (∀ k ∈ own, h k = { base := (h k).base, blks := [] }) ∧ (dec caps h).1 ∧ (feed (mkY LC keys pre go nxt) (dec caps h).2 h).1, .tup [], hps (own.map fun k => (k, { base := (h k).base + 1000000, blks := [] })) (feed (mkY LC keys pre go nxt) (dec caps h).2 h).2⟩ := rfl
    rw [hgo, hdec.2]
    refine ⟨⟨rfl, hloc, hfr, hdec.1, f1⟩, ?_⟩
    simp only [f2]
    have hoL : YS ∉ (own.map fun k => (k, ({ base := (h k).base + 1000000, blks := [] } : Site))).map (·.1) := by
      rw [List.map_map]
      intro hm
      obtain ⟨a, ha, e⟩ := List.mem_map.1 hm
      exact hoy (e ▸ ha)
    have hflg : ∀ b, (hps (own.map fun k => (k, ({ base := (h k).base + 1000000, blks := [] } : Site))) (hfl (hps (LC (runS pre go nxt s0 xs).2.2) h) b) YS).fl = b := fun b => by
      rw [hps_not hoL]; simp [hfl]
    have hfin : ∀ b, hfl (hps (own.map fun k => (k, ({ base := (h k).base + 1000000, blks := [] } : Site))) (hfl (hps (LC (runS pre go nxt s0 xs).2.2) h) b)) false = hps (own.map fun k => (k, ({ base := (h k).base + 1000000, blks := [] } : Site))) (hps (LC (runS pre go nxt s0 xs).2.2) h) := by
      intro b
      funext k
      by_cases hk : k = YS
      · rw [hk]
        have e1 : hps (LC (runS pre go nxt s0 xs).2.2) h YS = h YS := hps_not (hLy _)
        rw [hps_not hoL, e1, hfl_ys]
        simp only [hnext, hps_not hoL, hfl_ys, e1]
        cases hh : h YS with
        | mk base blks fl mps => rw [hh] at hys; obtain ⟨a, b⟩ := hys; simp only at a b; subst a b; simp
      · rw [hfl_ne _ _ hk]
        by_cases hkL : k ∈ (own.map fun k => (k, ({ base := (h k).base + 1000000, blks := [] } : Site))).map (·.1)
        · exact hps_mem hkL
        · rw [hps_not hkL, hps_not hkL, hfl_ne _ _ hk]
    rw [hflg, hfin]
    refine ⟨fun hb => hQ1 (by simpa using hb), fun hb => hQ2 (by simpa using hb)⟩
end
end Go.Sx
end
section
/- Plain: the first place in a list that is so. No conditions. -/
namespace Go.Sx
section
variable {α : Type}
def idxZ (l : List α) (p : α → Bool) : Int := match l.findIdx? p with | some i => i | none => -1
theorem idxZ_at (l : List α) (p : α → Bool) {k : Nat} (hk : k < l.length) (hp : p l[k] = true) (h : ∀ j (hj : j < l.length), j < k → p l[j] = false) : idxZ l p = k := by
  have : l.findIdx? p = some k := by
    rw [List.findIdx?_eq_some_iff_getElem]
    exact ⟨hk, hp, fun j hj => by simp [h j (by omega) hj]⟩
  simp [idxZ, this]
theorem idxZ_none (l : List α) (p : α → Bool) (h : ∀ j (hj : j < l.length), p l[j] = false) : idxZ l p = -1 := by
  have : l.findIdx? p = none := by
    rw [List.findIdx?_eq_none_iff]
    intro x hx
    obtain ⟨j, hj, rfl⟩ := List.getElem_of_mem hx
    exact h j hj
  simp [idxZ, this]
theorem idxZ_any (l : List α) (p : α → Bool) : decide (0 ≤ idxZ l p) = l.any p := by
  unfold idxZ
  cases h : l.findIdx? p with
  | none => rw [List.findIdx?_eq_none_iff] at h; simp; exact fun x hx => by simpa using h x hx
  | some i =>
    have : l.any p = true := by
      rw [List.findIdx?_eq_some_iff_getElem] at h
      obtain ⟨h1, h2, _⟩ := h
      exact List.any_eq_true.2 ⟨_, List.getElem_mem h1, h2⟩
    simp [this]
end
end Go.Sx
end
