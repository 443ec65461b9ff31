/- Code's soundness, a function's. No conditions. -/
import Derived.Test.YtbdphjgpjhlpmaaSxV
set_option linter.unusedSimpArgs false
set_option linter.unusedVariables false
namespace Go.Sx
open Go.RowKit

section
variable {F : Fr} {w : World} {A : Nat → Prop} {X : Refs} {h : Hp}

/-- The code's exits. -/
def exOf : Exit → Option Ex
  | .normal => some .normal
  | .exit id => some (.exit id)
  | .ret => some .ret
  | _ => none

theorem HLe.refl (h : Hp) : HLe h h := ⟨fun _ _ _ hg => hg, fun _ => Nat.le_refl _⟩

theorem R.weaken {nt : Nat} {st st' : St} {a : Act} {w : World} (hR : R F nt st a w) (hle : StLe st st') : R F nt st' a w := by
  obtain ⟨⟨A, X, hI, ht⟩, hsz, hdf⟩ := hR
  refine ⟨⟨A, X, { abd := hI.abd, aold := hI.aold, akeep := hI.akeep, os := hI.os, tape := hI.tape, output := hI.output, size := hI.size, same := hI.same, xle := hI.xle, nb := fun s => Nat.le_trans (hI.nb s) (hle.h.2 s), blk := fun s i B hg => hI.blk s i B (hle.h.1 s i B hg), inj := fun s i B s' i' B' hg hg' => hI.inj s i B s' i' B' (hle.h.1 s i B hg) (hle.h.1 s' i' B' hg') }, fun k => ?_⟩, hsz, hdf⟩
  rcases hle.t k with h1 | h1 | ⟨x, h1, y, h2, h3⟩
  · rw [h1]; exact ⟨fun _ => .pure (.top _), fun hh => by cases hh⟩
  · rw [h1]; exact ht k
  · have := ht k
    rw [h1] at this
    rw [h2]; exact ⟨fun _ => sub_soundR h3 (this.1 rfl), fun hh => by cases hh⟩

theorem R.ghost {nt : Nat} {st st' : St} (hg : Gh st st') {a : Act} {w : World} : R F nt st a w → R F nt st' a w := by
  induction hg with
  | refl st => exact id
  | nil st st' k key z ty hk hz hh ih =>
    intro hR
    refine ih ?_
    obtain ⟨⟨A, X, hI, ht⟩, hsz, hdf⟩ := hR
    obtain ⟨X', hX, hI', hv⟩ := hI.promote key z ty
    refine ⟨⟨A, X', hI', fun k' => ?_⟩, hsz, hdf⟩
    simp only [upd]
    have h1 := ht k'
    by_cases e : k' = k
    · subst e
      rw [if_pos rfl]
      rw [hk] at h1
      have h2 := (h1.1 rfl).nil_inv
      have hb := hI'.blk key (hnext st.h key) _ (hget_push_new st.h key _)
      refine ⟨fun _ => ?_, fun hh => by cases hh⟩
      rw [h2]
      exact .bsl key _ 0 none 0 hb.hN (Nat.zero_le _) (fun _ => hv.symm)
    · rw [if_neg e]
      exact ⟨fun hh => (h1.1 hh).mono (Later.refl w A) hX, h1.2⟩

theorem Inv.freezeT (hI : Inv F w A X h) (T : Nat → Nat → Bool) {h' : Hp} (hg : ∀ s i, hget h' s i = (hget h s i).map fun B => if T s i then { B with fz := true } else B) (hn : ∀ s, hnext h' s = hnext h s) : ∃ A', Later w A w A' ∧ Inv F w A' X h' := by
  let A' : Nat → Prop := fun b => A b ∧ ¬ ∃ s i B, hget h s i = some B ∧ T s i = true ∧ (X.D s i).real ∧ (X.D s i).b = b
  have hL : Later w A w A' := ⟨Nat.le_refl _, fun b _ hA => ⟨rfl, fun hh => hA hh.1⟩⟩
  have get : ∀ {s i B'}, hget h' s i = some B' → ∃ B, hget h s i = some B ∧ B' = if T s i then { B with fz := true } else B := by
    intro s i B' hB'
    rw [hg] at hB'
    cases hB : hget h s i with
    | none => rw [hB] at hB'; cases hB'
    | some B => rw [hB] at hB'; exact ⟨B, rfl, (Option.some.inj hB').symm⟩
  refine ⟨A', hL, { abd := fun b hA => hI.abd b hA.1, aold := fun b hlt hA => hI.aold b hlt hA.1, akeep := ?_, os := hI.os, tape := hI.tape, output := hI.output, size := hI.size, same := hI.same, xle := hI.xle, nb := fun s' => by rw [hn]; exact hI.nb s', blk := ?_, inj := ?_ }⟩
  · intro b hlt hA0 hM
    have hAb := hI.akeep b hlt hA0 hM
    refine ⟨hAb, ?_⟩
    rintro ⟨s, i, B, hB, hT, hreal, rfl⟩
    rcases (hI.blk s i B hB).mem with ⟨k1, _⟩ | ⟨arr, cap, m1, m2, m3, m4, m5, m6, m7, m8⟩
    · exact hreal k1
    · cases hfz : B.fz with
      | true => exact m7 hfz hAb
      | false => rcases (m8 hfz).2 with h | h
                 · exact hM h
                 · omega
  · intro s i B' hB'
    obtain ⟨B, hB, rfl⟩ := get hB'
    have ho := hI.blk s i B hB
    have e1 : (if T s i then { B with fz := true } else B).z = B.z := by split <;> rfl
    have e2 : (if T s i then { B with fz := true } else B).els = B.els := by split <;> rfl
    have e3 : (if T s i then { B with fz := true } else B).ty = B.ty := by split <;> rfl
    have e4 : (if T s i then { B with fz := true } else B).cl = B.cl := by split <;> rfl
    refine { hN := ho.hN, hz := by rw [e1]; exact ho.hz, hlen := by rw [e2]; exact ho.hlen, rows := by rw [e1, e2]; exact ho.rows, mem := ?_ }
    rw [e1, e2, e3, e4]
    rcases ho.mem with hm | ⟨arr, cap, k1, k2, k3, k4, k5, k6, k7, k8⟩
    · exact .inl hm
    · have hr : (X.D s i).real := by unfold Hd.real; rw [k2]; simp
      refine .inr ⟨arr, cap, k1, k2, k3, k4, k5, ?_, ?_, ?_⟩
      · intro e j row c he hj
        obtain ⟨u, g1, g2, g3, g4⟩ := k6 e j row c he hj
        exact ⟨u, g1, g2, g3.mono hL (Xle.refl X), fun hcl => (g4 hcl).mono hL⟩
      · intro hf hh
        cases hT : T s i with
        | true => exact hh.2 ⟨s, i, B, hB, hT, hr, rfl⟩
        | false => rw [hT] at hf; exact k7 hf hh.1
      · intro hf
        cases hT : T s i with
        | true => rw [hT] at hf; cases hf
        | false =>
          rw [hT] at hf
          refine ⟨⟨(k8 hf).1, ?_⟩, (k8 hf).2⟩
          rintro ⟨s1, i1, B1, hB1, hT1, hr1, hb1⟩
          obtain ⟨rfl, rfl⟩ := hI.inj s1 i1 B1 s i B hB1 hB hr1 hr hb1
          rw [hT] at hT1; cases hT1
  · intro s1 i1 B1 s2 i2 B2 h1 h2 hr1 hr2 hbb
    obtain ⟨C1, c1, _⟩ := get h1
    obtain ⟨C2, c2, _⟩ := get h2
    exact hI.inj s1 i1 C1 s2 i2 C2 c1 c2 hr1 hr2 hbb
theorem Inv.freeze (hI : Inv F w A X h) {s i : Nat} {B : Blk} (hB : hget h s i = some B) : ∃ A', Later w A w A' ∧ Inv F w A' X (hset h s i { B with fz := true }) := by
  refine hI.freezeT (fun s' i' => decide (s' = s ∧ i' = i)) (fun s' i' => ?_) (fun s' => hnext_set ..)
  by_cases heq : s' = s ∧ i' = i
  · obtain ⟨rfl, rfl⟩ := heq
    rw [hget_set_same hB, hB]; simp
  · rw [hget_set_other h _ heq (hget_base hB)]
    cases hget h s' i' <;> simp [heq]
theorem Inv.freezeH (hI : Inv F w A X h) (s : Nat) : ∃ A', Later w A w A' ∧ Inv F w A' X (frzH h s) := by
  refine hI.freezeT (fun s' _ => decide (s' = s)) (fun s' i' => ?_) (fun s' => ?_)
  · unfold hget frzH
    by_cases hs : s' = s
    · subst hs
      simp only [if_true, decide_true, List.getElem?_map]
      split <;> rfl
    · simp only [hs, if_false, decide_false]
      split
      · rfl
      · simp
  · unfold hnext frzH
    by_cases hs : s' = s
    · subst hs; simp
    · simp [hs]

theorem R.frz {nt : Nat} : ∀ (l : List Nat) {st : St} {a : Act} {w : World}, R F nt st a w → (frzs l st).1 → R F nt (frzs l st).2 a w
  | [], st, a, w, hR, _ => hR
  | k :: r, st, a, w, hR, hc => by
    have step : (frzK k st).1 → R F nt (frzK k st).2 a w := by
      intro h1
      obtain ⟨⟨A, X, hI, ht⟩, hsz, hdf⟩ := hR
      have key : ∀ h', (∃ A', Later w A w A' ∧ Inv F w A' X h') → R F nt { t := st.t, h := h' } a w := by
        rintro h' ⟨A', hL, hI'⟩
        exact ⟨⟨A', X, hI', fun k => ⟨fun hh => ((ht k).1 hh).mono hL (Xle.refl X), (ht k).2⟩⟩, hsz, hdf⟩
      unfold frzK at h1 ⊢
      by_cases hk : 100000 ≤ k
      · rw [if_pos hk]; exact key _ (hI.freezeH _)
      rw [if_neg hk] at h1 ⊢
      by_cases hk : 50000 ≤ k
      · rw [if_pos hk] at h1 ⊢
        clear hk
        revert h1
        generalize k - 50000 = q
        intro h1
        simp only [frzP] at h1 ⊢
        refine ⟨⟨A, X, hI, fun j => ?_⟩, hsz, hdf⟩
        by_cases hj : j = q
        · subst hj
          simp only [upd, if_true]
          exact ⟨fun hh => .pure (fzN_sound hI 3 _ _ ((ht _).1 hh) h1.1.2 h1.2 (leaf_shape h1.1.1)), (ht _).2⟩
        · simp only [upd, hj, if_false]; exact ht j
      · rw [if_neg hk] at h1 ⊢
        cases hv : (st.t k).2 <;> rw [hv] at h1 <;> simp only [frz1] at h1 ⊢
        case bptr s i n e j =>
          cases hB : hget st.h s i with
          | none => simp [hB] at h1
          | some B => simp only []; exact key _ (hI.freeze hB)
        case bsl s i n =>
          cases hB : hget st.h s i with
          | none => simp [hB] at h1
          | some B => simp only []; exact key _ (hI.freeze hB)
        all_goals exact h1.elim
    simp only [frzs] at hc ⊢
    exact R.frz r (step hc.1) hc.2

theorem awp_sound {E : Env} (hT : TblOK E) {ok : Alts} : ∀ (c : Code) (hok : drawsOk E ok c = true) (st : St) (QA : Ex → St → Prop) (Q : Exit → Act → World → Prop) (a : Act) (w : World), awp E ok c st QA → R F E.nt st a w →
    (∀ e st' a' w' e', QA e st' → R F E.nt st' a' w' → exOf e' = some e → Q e' a' w') → c.wp E.P Q a w := by
  intro c
  induction c with
  | skip => intro hok st QA Q a w h hR hQ; exact wp_skip (hQ _ _ _ _ .normal h hR rfl)
  | ret => intro hok st QA Q a w h hR hQ; exact wp_ret (hQ _ _ _ _ .ret h hR rfl)
  | exit id => intro hok st QA Q a w h hR hQ; exact wp_exit (hQ _ _ _ _ (.exit id) h hR rfl)
  | region id ops draw =>
    intro hok st QA Q a w h hR hQ
    simp only [awp] at h
    have hR := hR.frz _ h.1
    have h := h.2
    revert h hR
    generalize (frzs (lkf E.frz id) st).2 = st
    intro hR h
    cases draw with
    | false =>
      simp only at h
      cases hr : runL E ops.toList ops.toList st with
      | mk c st' =>
        rw [hr] at h
        refine wp_region_list ?_
        have := runL_sound (Q := Q) rfl hT ops.toList st a w hR (by rw [hr]; exact h.1) (fun a' w' hR' => hQ _ _ _ _ .normal h.2 (by rw [hr] at hR'; exact hR') rfl)
        simpa using this
    | true =>
      simp only [drawsOk] at hok
      cases hl : ok.lookup id with
      | none =>
        rw [hl] at h hok
        simp only at hok
        refine draw_sound hT hok hR ?_
        simp only [runs]
        have hrl := runI_runL (E := E) (ops := ops.toList) (fr := []) (List.range ops.toList.length) st
        have hlr := runL_runI (E := E) (ops := ops.toList) (List.range ops.toList.length) st
        rw [range_filterMap] at hrl hlr
        rw [hrl.2]
        cases hr : runL E ops.toList ops.toList st with
        | mk c st' =>
          rw [hr] at h hlr
          exact ⟨⟨hlr h.1, fun a' w' hR' => hQ _ _ _ _ .normal h.2 hR' rfl⟩, trivial⟩
      | some p =>
        obtain ⟨fr, cs⟩ := p
        rw [hl] at h hok
        simp only at hok
        refine draw_sound hT hok hR ?_
        simp only at h
        have mono : ∀ (cs : List (List Nat)) {K K' : St → Prop}, (∀ s, K s → K' s) → runs E ops.toList fr cs st K → runs E ops.toList fr cs st K' := by
          intro cs K K' hk
          induction cs with
          | nil => intro h; exact h
          | cons c cs ih => intro h; exact ⟨⟨h.1.1, hk _ h.1.2⟩, ih h.2⟩
        exact mono cs (fun s hs a' w' hR' => hQ _ _ _ _ .normal hs hR' rfl) h
  | seq x y ihx ihy =>
    intro hok st QA Q a w h hR hQ
    simp only [awp] at h
    simp only [drawsOk, Bool.and_eq_true] at hok
    refine wp_seq (ihx hok.1 st _ _ a w h hR fun e st' a' w' e' hq hR' he => ?_)
    cases e' <;> simp only [exOf, Option.some.injEq, reduceCtorEq] at he
    · subst he; exact ihy hok.2 st' QA Q a' w' hq hR' hQ
    · subst he; exact hQ _ _ _ _ _ hq hR' rfl
    · subst he; exact hQ _ _ _ _ _ hq hR' rfl
  | cond c x y ihx ihy =>
    intro hok st QA Q a w h hR hQ
    simp only [awp] at h
    simp only [drawsOk, Bool.and_eq_true] at hok
    cases hev : ev st c with
    | mk g v =>
    rw [hev] at h
    cases v with
    | bool b =>
      simp only at h
      obtain ⟨hg, h1, h2⟩ := h
      have hc : a.eval c = .bool b := by
        obtain ⟨⟨A, X, hI, ht⟩, _, _⟩ := hR
        cases c with
        | tmp k =>
          have hk : st.t k = (g, .bool b) := hev
          have := ht k
          rw [hk] at this
          exact (this.1 hg).bool_inv
        | const v =>
          simp only [ev, Prod.mk.injEq] at hev
          have := pv_ofVal w A v
          rw [hev.2] at this
          cases this; rfl
        | global g => simp [ev] at hev
        | func f => simp [ev] at hev
      refine wp_cond_split hc (fun hb => ihx hok.1 st QA Q a w (h1 hb) hR hQ) (fun hb => ihy hok.2 st QA Q a w (h2 hb) hR hQ)
    | _ => exact h.elim
  | block id c ih =>
    intro hok st QA Q a w h hR hQ
    simp only [awp] at h
    refine wp_block (ih hok st _ _ a w h hR fun e st' a' w' e' hq hR' he => ?_)
    cases e' <;> simp only [exOf, Option.some.injEq, reduceCtorEq] at he
    · subst he; exact hQ _ _ _ _ .normal hq hR' rfl
    · rename_i i
      subst he
      simp only [Exit.inBlock]
      simp only at hq
      by_cases hi : i = id
      · rw [if_pos hi] at hq ⊢; exact hQ _ _ _ _ .normal hq hR' rfl
      · rw [if_neg hi] at hq ⊢; exact hQ _ _ _ _ (.exit i) hq hR' rfl
    · subst he; exact hQ _ _ _ _ .ret hq hR' rfl
  | loop c ih =>
    intro hok st QA Q a w h hR hQ
    simp only [awp] at h
    obtain ⟨ι, I, m, i0, ⟨st1, hgh, hle⟩, hbody⟩ := h
    have hR0 := (hR.ghost hgh).weaken hle
    intro b k cs
    have key : ∀ (n : Nat) (i : ι), m i = n → ∀ a w, R F E.nt (I i) a w →
        ∃ e a' w', Q e a' w' ∧ Arrives E.P (lone (b.at a (.code c :: .inLoop c :: k)) cs w) b k cs e a' w' := by
      intro n
      induction n using Nat.strongRecOn with
      | _ n ihn =>
        intro i hi a w hR
        have hb := ih hok (I i) _ (Exit.then (fun a' w' => ∃ j, R F E.nt (I j) a' w' ∧ m j < m i) Q) a w (hbody i) hR (fun e st' a' w' e' hq hR' he => by
          cases e' <;> simp only [exOf, Option.some.injEq, reduceCtorEq] at he
          · subst he
            obtain ⟨j, hle', hlt⟩ := hq
            exact ⟨j, hR'.weaken hle', hlt⟩
          · subst he; exact hQ _ _ _ _ _ hq hR' rfl
          · subst he; exact hQ _ _ _ _ _ hq hR' rfl)
        obtain ⟨e, a₁, w₁, hq, harr⟩ := hb b (.inLoop c :: k) cs
        cases e with
        | normal =>
          obtain ⟨j, hRj, hlt⟩ := hq
          obtain ⟨e₂, a₂, w₂, hq₂, harr₂⟩ := ihn (m j) (hi ▸ hlt) j rfl a₁ w₁ hRj
          exact ⟨e₂, a₂, w₂, hq₂, .of_steps (Steps.trans harr (.one step_inLoop)) harr₂⟩
        | exit id => exact ⟨_, a₁, w₁, hq, .pass (x := .inLoop c) rfl (fun _ _ => .inl (by simp)) harr⟩
        | goto l => exact ⟨_, a₁, w₁, hq, .pass (x := .inLoop c) rfl (fun _ _ => .inl (by simp)) harr⟩
        | ret => exact ⟨_, a₁, w₁, hq, .pass (x := .inLoop c) rfl (fun _ _ => .inl (by simp)) harr⟩
        | panic ch => exact ⟨_, a₁, w₁, hq, .pass (x := .inLoop c) rfl (fun _ _ => .inl (by simp)) harr⟩
        | outgrown => exact ⟨_, a₁, w₁, hq, .pass (x := .inLoop c) rfl (fun _ _ => .inl (by simp)) harr⟩
    obtain ⟨e, a', w', hq, harr⟩ := key (m i0) i0 rfl a w hR0
    exact ⟨e, a', w', hq, .of_steps (.one step_loop) harr⟩
  | _ => intro hok st QA Q a w h; exact h.elim

/-- A result variable's value, as what leaves. -/
def resV (P : Program) (st : St) : ResultVar → Prop × V
  | .tmp t => match st.t t with
    | (g, v) => match lend st.h v with
      | (c, r) => (g = true ∧ v.argOk = true ∧ c, r)
  | .cell a T => match st.t a with
    | (g, p) => match sLoad P T p st.h with
      | ⟨c, v, _⟩ => match lend st.h v with
        | (c', r) => (g = true ∧ c ∧ v.argOk = true ∧ c', r)

def ressV (P : Program) (st : St) : List ResultVar → Prop × List V
  | [] => (True, [])
  | x :: xs => match resV P st x with
    | (c, v) => match ressV P st xs with
      | (c', vs) => (c ∧ c', v :: vs)

def retV (P : Program) (rs : List ResultVar) (st : St) : Prop × V :=
  match rs with
  | [x] => resV P st x
  | xs => match ressV P st xs with
    | (c, vs) => (c, .tup vs)

def noH : Hp := fun _ => { base := 0, blks := [] }
def upds : List (Nat × (Bool × V)) → (Nat → Bool × V) → Nat → Bool × V
  | [], T, k => T k
  | (d, x) :: L, T, k => if k = d then x else upds L T k
def topT (_ : Nat) : Bool × V := (true, .top)
def zipT : Nat → List V → List (Nat × (Bool × V))
  | _, [] => []
  | n, a :: r => (n, (true, a)) :: zipT (n + 1) r
theorem zipT_get : ∀ (args : List V) (n k : Nat), n ≤ k → upds (zipT n args) topT k = (true, args.getD (k - n) .top)
  | [], n, k, _ => rfl
  | a :: r, n, k, hk => by
    simp only [zipT, upds]
    by_cases h : k = n
    · subst h; simp
    · rw [if_neg h, zipT_get r (n + 1) k (by omega)]
      rw [show k - n = (k - (n + 1)) + 1 by omega]; simp
def entry (args : List V) (h : Hp) : St := { t := upds (zipT 0 args) topT, h := h }
theorem entry_t (args : List V) (h : Hp) (k : Nat) : (entry args h).t k = (true, args.getD k .top) := zipT_get args 0 k (Nat.zero_le _)

/-- What a pure function owes: its body, walked, comes to its result. -/
def PureBody (E : Env) (ok : Alts) (fn : Func) (S : PSpec) : Prop :=
  ∀ d : S.dom, S.pre d → awp E ok (fn.body.getD .skip) (entry (S.enc d) noH) fun e st => (e = .normal ∨ e = .ret) ∧ match retV E.P fn.results.toList st with
    | (c, v) => c ∧ sub v (S.res d)

def resRun (tmps : Array Value) : ResultVar → Sem Value
  | .tmp t => pure (tmps.getD t undef)
  | .cell a t => do loadVar t (← asAddr (tmps.getD a undef))

def TOK (w : World) (A : Nat → Prop) (X : Refs) (t : Nat → Bool × V) (tmps : Array Value) : Prop :=
  ∀ k, ((t k).1 = true → RV w A X (t k).2 (tmps.getD k undef)) ∧ ((t k).1 = false → tmps.getD k undef = undef)

theorem run_resV {P : Program} {st : St} {tmps : Array Value} {w : World} {A : Nat → Prop} {X : Refs} (hI : Inv F w A X st.h) (ht : TOK w A X st.t tmps) (r : ResultVar) (hc : (resV P st r).1) :
    ∃ v, (resRun tmps r).run P w = .ok v w ∧ PV w (lentA A X st.h) (resV P st r).2 v := by
  cases r with
  | tmp t =>
    cases h1 : st.t t with
    | mk g v =>
    cases h2 : lend st.h v with
    | mk c r =>
    simp only [resV, h1, h2] at hc ⊢
    have htt := ht t
    rw [h1] at htt
    have := lend_sound hI (htt.1 hc.1) (by rw [h2]; exact hc.2.2) hc.2.1
    rw [h2] at this
    exact ⟨_, rfl, this⟩
  | cell a T =>
    cases h1 : st.t a with
    | mk g p =>
    cases h3 : sLoad P T p st.h with
    | mk c v h' =>
    cases h2 : lend st.h v with
    | mk c' r =>
    simp only [resV, h1, h2, h3] at hc ⊢
    have htt := ht a
    rw [h1] at htt
    obtain ⟨u, hl1, hl2⟩ := sLoad_sound (P := P) (T := T) hI (htt.1 hc.1) (by rw [h3]; exact hc.2.1)
    rw [h3] at hl2
    have := lend_sound hI hl2 (by rw [h2]; exact hc.2.2.2) hc.2.2.1
    rw [h2] at this
    refine ⟨u, ?_, this⟩
    simp only [resRun]
    cases htm : tmps.getD a undef with
    | pointer x =>
      cases x with
      | some b =>
        rw [htm] at hl1
        simp only [Instr.loadAt, Instr.sureAddr, Sem.run_bind, Sem.run_pure, Result.andThen_ok] at hl1
        simpa [asAddr] using hl1
      | none => rw [htm] at hl1; simp [Instr.loadAt, Instr.sureAddr] at hl1
    | _ => rw [htm] at hl1; simp [Instr.loadAt, Instr.sureAddr] at hl1

theorem run_ressV {P : Program} {st : St} {tmps : Array Value} {w : World} {A : Nat → Prop} {X : Refs} (hI : Inv F w A X st.h) (ht : TOK w A X st.t tmps) : ∀ (rs : List ResultVar), (ressV P st rs).1 →
    ∃ vs : List Value, (rs.mapM (resRun tmps)).run P w = .ok vs w ∧ vs.length = rs.length ∧ (ressV P st rs).2.length = rs.length ∧ ∀ (i : Nat) (c : V) (v : Value), (ressV P st rs).2[i]? = some c → vs[i]? = some v → PV w (lentA A X st.h) c v
  | [], _ => ⟨[], by simp, rfl, rfl, fun i c v hc => by simp [ressV] at hc⟩
  | x :: xs, hc => by
    cases h1 : resV P st x with
    | mk c v =>
    cases h2 : ressV P st xs with
    | mk c' vs =>
    simp only [ressV, h1, h2] at hc ⊢
    obtain ⟨u, hu1, hu2⟩ := run_resV (P := P) hI ht x (by rw [h1]; exact hc.1)
    obtain ⟨us, hs1, hs2, hs3, hs4⟩ := run_ressV (P := P) hI ht xs (by rw [h2]; exact hc.2)
    rw [h1] at hu2
    rw [h2] at hs3 hs4
    refine ⟨u :: us, ?_, by simp [hs2], by simpa using hs3, fun i c v hc hv => ?_⟩
    · simp only [List.mapM_cons, Sem.run_bind, hu1, Result.andThen_ok, hs1, Sem.run_pure]
    · cases i with
      | zero => simp at hc hv; subst hc hv; exact hu2
      | succ i => exact hs4 i c v (by simpa using hc) (by simpa using hv)

theorem results_run {P : Program} {fn : Func} {tmps : Array Value} {w : World} {vs : List Value} (h : (fn.results.toList.mapM (resRun tmps)).run P w = .ok vs w) :
    (results fn tmps).run P w = .ok (if h : vs.toArray.size = 1 then vs.toArray[0] else .tuple vs.toArray) w := by
  have hm : (fn.results.mapM (resRun tmps)).run P w = .ok vs.toArray w := by
    rw [Array.mapM_eq_mapM_toList]
    refine (Sem.run_map P w _ _).trans ?_
    rw [h]; rfl
  unfold results
  have e : (fun r => match r with | .tmp t => pure (tmps.getD t undef) | .cell a t => do loadVar t (← asAddr (tmps.getD a undef)) : ResultVar → Sem Value) = resRun tmps := by
    funext r; cases r <;> rfl
  show (do let vs ← fn.results.mapM (resRun tmps); pure (if h : vs.size = 1 then vs[0] else .tuple vs) : Sem Value).run P w = _
  simp only [Sem.run_bind, hm, Result.andThen_ok, Sem.run_pure]

theorem retV_sound {P : Program} {fn : Func} {st : St} {tmps : Array Value} {w : World} {A : Nat → Prop} {X : Refs} (hI : Inv F w A X st.h) (ht : TOK w A X st.t tmps) (hc : (retV P fn.results.toList st).1) :
    ∃ v, (results fn tmps).run P w = .ok v w ∧ PV w (lentA A X st.h) (retV P fn.results.toList st).2 v := by
  generalize hrs : fn.results.toList = rs at hc ⊢
  unfold retV at hc ⊢
  split at hc
  · rename_i x
    obtain ⟨u, hu1, hu2⟩ := run_resV (P := P) hI ht x hc
    refine ⟨u, ?_, hu2⟩
    have := results_run (P := P) (fn := fn) (tmps := tmps) (w := w) (vs := [u]) (by rw [hrs]; simp [List.mapM_cons, hu1])
    simpa using this
  · rename_i hne
    cases h2 : ressV P st rs with
    | mk c' vs =>
    rw [h2] at hc
    simp only at hc ⊢
    obtain ⟨us, hs1, hs2, hs3, hs4⟩ := run_ressV (P := P) hI ht rs (by rw [h2]; exact hc)
    rw [h2] at hs3 hs4
    have := results_run (P := P) (fn := fn) (tmps := tmps) (w := w) (vs := us) (by rw [hrs]; exact hs1)
    have hs3' : vs.length = rs.length := hs3
    have hl : ¬ us.toArray.size = 1 := by
      intro hh
      have h1 : rs.length = 1 := by rw [← hs2]; simpa using hh
      obtain ⟨x, rfl⟩ := List.length_eq_one_iff.1 h1
      exact hne x rfl
    rw [dif_neg hl] at this
    refine ⟨_, this, .tup vs us.toArray (by simp; omega) fun i c hi => ?_⟩
    have hlt : i < us.length := by have := (List.getElem?_eq_some_iff.1 hi).1; omega
    have hg : us.toArray.getD i und = us[i] := by simp [Array.getD_eq_getD_getElem?, hlt]
    rw [hg]
    exact hs4 i c _ hi (List.getElem?_eq_getElem hlt)

/-- From the walked body to the contract. -/
theorem pure_ok {E : Env} (hT : TblOK E) {ok : Alts} {f : FuncId} {fn : Func} {c : Code} {S : PSpec} (hf : E.P.funcs[f]? = some fn) (hb : fn.body = some c) (hok : drawsOk E ok c = true) (hnt : fn.ntmps = E.nt) (hlen : ∀ d, S.pre d → (S.enc d).length ≤ E.nt)
    (h : PureBody E ok fn S) : PureOK E.P f S := by
  intro d hd w A vals hA hsz hargs
  have hw := h d hd
  rw [hb] at hw
  simp only [Option.getD_some] at hw
  refine calls_of_wp hf hb ?_
  let X0 : Refs := { D := fun _ _ => { b := 0, z := 0, len := 0, v := .slice none 0 0 }, N := fun _ => 0 }
  let F0 : Fr := { w0 := w, A0 := A, X0 := X0, M := fun _ => False }
  have hI : Inv F0 w A X0 noH := by
    refine { abd := hA, aold := fun b _ h => h, akeep := fun b _ h _ => h, os := rfl, tape := rfl, output := rfl, size := Nat.le_refl _, same := fun _ _ _ => rfl, xle := Xle.refl _, nb := fun s => Nat.zero_le _, blk := ?_, inj := ?_ }
    · intro s i B hg; simp [hget, noH] at hg
    · intro s i B s' i' B' hg; simp [hget, noH] at hg
  have hR : R F0 E.nt (entry (S.enc d) noH) { tmps := vals ++ Array.replicate (fn.ntmps - vals.size) undef, defers := [] } w := by
    refine ⟨⟨A, X0, hI, fun k => ?_⟩, by have := hlen d hd; simp [hnt]; omega, rfl⟩
    rw [entry_t]
    refine ⟨fun _ => ?_, fun hh => by cases hh⟩
    simp only
    by_cases hk : k < (S.enc d).length
    · have e1 : (S.enc d).getD k .top = (S.enc d)[k] := by simp [List.getD, List.getElem?_eq_getElem hk]
      rw [e1]
      have := hargs k _ (List.getElem?_eq_getElem hk)
      have e2 : (vals ++ Array.replicate (fn.ntmps - vals.size) undef).getD k undef = vals.getD k und := by
        simp only [Array.getD_eq_getD_getElem?]
        rw [Array.getElem?_append_left (by omega)]
      rw [e2]; exact .pure this
    · have e1 : (S.enc d).getD k .top = .top := by simp [List.getD, List.getElem?_eq_none (Nat.le_of_not_lt hk)]
      rw [e1]; exact .pure (.top _)
  refine awp_sound hT c hok _ _ _ _ w hw hR fun e st' a' w' e' hq hR' he => ?_
  obtain ⟨⟨A', X', hI', ht'⟩, hsz', hdf'⟩ := hR'
  cases hrv : retV E.P fn.results.toList st' with
  | mk cr vr =>
  rw [hrv] at hq
  obtain ⟨hq1, hq2, hq3⟩ := hq
  obtain ⟨v, hv1, hv2⟩ := retV_sound (P := E.P) (fn := fn) hI' ht' (by rw [hrv]; exact hq2)
  rw [hrv] at hv2
  have hfin : a'.defers = [] ∧ ∃ v, (results fn a'.tmps).run E.P w' = .ok v w' ∧ ∃ v', Ending.returned v = .returned v' ∧ Below w.heap.size w w' ∧ PV w' A (S.res d) v' := by
    refine ⟨hdf', v, hv1, v, rfl, ⟨hI'.os, hI'.tape, hI'.output, hI'.size, fun k hk => hI'.same k hk (fun hh => hh)⟩, sub_sound hq3 (hv2.mono ⟨Nat.le_refl _, fun b hb hl => ⟨rfl, fun hAb => hl ⟨hI'.akeep b (hA b hAb) hAb (fun hh => hh), ?_⟩⟩⟩)⟩
    rintro ⟨s, i, B, hg, hfz, hreal, hbb⟩
    rcases (hI'.blk s i B hg).mem with hm | ⟨arr, cap, g1, g2, g3, g4, g5, g6, g7, g8⟩
    · exact hreal hm.1
    · rcases (g8 hfz).2 with h9 | h9
      · exact h9
      · have h10 := hA b hAb
        have h9' : w.heap.size ≤ (X'.D s i).b := h9
        omega
  cases e' <;> simp only [exOf, Option.some.injEq, reduceCtorEq] at he
  · exact hfin
  · subst he; rcases hq1 with hh | hh <;> cases hh
  · exact hfin

/-- A result variable's value, as it is. -/
def rawV (P : Program) (st : St) : ResultVar → Prop × V
  | .tmp t => ((st.t t).1 = true, (st.t t).2)
  | .cell a T => ((st.t a).1 = true ∧ (sLoad P T (st.t a).2 st.h).c, (sLoad P T (st.t a).2 st.h).v)
def rawsV (P : Program) (st : St) : List ResultVar → Prop × List V
  | [] => (True, [])
  | x :: xs => ((rawV P st x).1 ∧ (rawsV P st xs).1, (rawV P st x).2 :: (rawsV P st xs).2)
def rawR (P : Program) (rs : List ResultVar) (st : St) : Prop × V :=
  match rs with
  | [x] => rawV P st x
  | xs => ((rawsV P st xs).1, .tup (rawsV P st xs).2)

theorem run_rawV {P : Program} {st : St} {tmps : Array Value} {w : World} {A : Nat → Prop} {X : Refs} (hI : Inv F w A X st.h) (ht : TOK w A X st.t tmps) (r : ResultVar) (hc : (rawV P st r).1) :
    ∃ v, (resRun tmps r).run P w = .ok v w ∧ RV w A X (rawV P st r).2 v := by
  cases r with
  | tmp t => exact ⟨_, rfl, (ht t).1 hc⟩
  | cell a T =>
    simp only [rawV] at hc ⊢
    obtain ⟨u, hl1, hl2⟩ := sLoad_sound (P := P) (T := T) hI ((ht a).1 hc.1) hc.2
    refine ⟨u, ?_, hl2⟩
    simp only [resRun]
    cases htm : tmps.getD a undef with
    | pointer x =>
      cases x with
      | some b =>
        rw [htm] at hl1
        simp only [Instr.loadAt, Instr.sureAddr, Sem.run_bind, Sem.run_pure, Result.andThen_ok] at hl1
        simpa [asAddr] using hl1
      | none => rw [htm] at hl1; simp [Instr.loadAt, Instr.sureAddr] at hl1
    | _ => rw [htm] at hl1; simp [Instr.loadAt, Instr.sureAddr] at hl1

theorem run_rawsV {P : Program} {st : St} {tmps : Array Value} {w : World} {A : Nat → Prop} {X : Refs} (hI : Inv F w A X st.h) (ht : TOK w A X st.t tmps) : ∀ (rs : List ResultVar), (rawsV P st rs).1 →
    ∃ vs : List Value, (rs.mapM (resRun tmps)).run P w = .ok vs w ∧ vs.length = rs.length ∧ (rawsV P st rs).2.length = rs.length ∧ ∀ (i : Nat) (c : V) (v : Value), (rawsV P st rs).2[i]? = some c → vs[i]? = some v → RV w A X c v
  | [], _ => ⟨[], by simp, rfl, rfl, fun i c v hc => by simp [rawsV] at hc⟩
  | x :: xs, hc => by
    simp only [rawsV] at hc ⊢
    obtain ⟨u, hu1, hu2⟩ := run_rawV (P := P) hI ht x hc.1
    obtain ⟨us, hs1, hs2, hs3, hs4⟩ := run_rawsV (P := P) hI ht xs hc.2
    refine ⟨u :: us, ?_, by simp [hs2], by simpa using hs3, fun i c v hc hv => ?_⟩
    · simp only [List.mapM_cons, Sem.run_bind, hu1, Result.andThen_ok, hs1, Sem.run_pure]
    · cases i with
      | zero => simp at hc hv; subst hc hv; exact hu2
      | succ i => exact hs4 i c v (by simpa using hc) (by simpa using hv)

theorem rawR_sound {P : Program} {fn : Func} {st : St} {tmps : Array Value} {w : World} {A : Nat → Prop} {X : Refs} (hI : Inv F w A X st.h) (ht : TOK w A X st.t tmps) (hc : (rawR P fn.results.toList st).1) :
    ∃ v, (results fn tmps).run P w = .ok v w ∧ RV w A X (rawR P fn.results.toList st).2 v := by
  generalize hrs : fn.results.toList = rs at hc ⊢
  unfold rawR at hc ⊢
  split at hc
  · rename_i x
    obtain ⟨u, hu1, hu2⟩ := run_rawV (P := P) hI ht x hc
    refine ⟨u, ?_, hu2⟩
    have := results_run (P := P) (fn := fn) (tmps := tmps) (w := w) (vs := [u]) (by rw [hrs]; simp [List.mapM_cons, hu1])
    simpa using this
  · rename_i hne
    simp only at hc ⊢
    obtain ⟨us, hs1, hs2, hs3, hs4⟩ := run_rawsV (P := P) hI ht rs hc
    have := results_run (P := P) (fn := fn) (tmps := tmps) (w := w) (vs := us) (by rw [hrs]; exact hs1)
    have hl : ¬ us.toArray.size = 1 := by
      intro hh
      have h1 : rs.length = 1 := by rw [← hs2]; simpa using hh
      obtain ⟨x, rfl⟩ := List.length_eq_one_iff.1 h1
      exact hne x rfl
    rw [dif_neg hl] at this
    refine ⟨_, this, .tup _ us.toArray (by simp; omega) fun i c hi => ?_⟩
    have hlt : i < us.length := by have := (List.getElem?_eq_some_iff.1 hi).1; omega
    have hg : us.toArray.getD i und = us[i] := by simp [Array.getD_eq_getD_getElem?, hlt]
    rw [hg]
    exact hs4 i c _ hi (List.getElem?_eq_getElem hlt)

/-- What a function on the heap owes. -/
def HeapBody (E : Env) (ok : Alts) (fn : Func) (S : HSpec) : Prop :=
  ∀ (args : List V) (h : Hp), (S.go args h).c → awp E ok (fn.body.getD .skip) (entry args h) fun e st => (e = .normal ∨ e = .ret) ∧ (rawR E.P fn.results.toList st).1 ∧ sub (rawR E.P fn.results.toList st).2 (S.go args h).v ∧ HLe st.h (S.go args h).h

theorem heap_ok {E : Env} (hT : TblOK E) {ok : Alts} {f : FuncId} {fn : Func} {c : Code} {S : HSpec} (hf : E.P.funcs[f]? = some fn) (hb : fn.body = some c) (hok : drawsOk E ok c = true) (hnt : fn.ntmps = E.nt) (hlen : ∀ args h, (S.go args h).c → args.length ≤ E.nt)
    (h : HeapBody E ok fn S) : HeapOK E.P f S := by
  intro args hp hc w A X vals hI hsz hargs
  have hw := h args hp hc
  rw [hb] at hw
  simp only [Option.getD_some] at hw
  refine calls_of_wp hf hb ?_
  have hR : R ⟨w, A, X, ownM X hp⟩ E.nt (entry args hp) { tmps := vals ++ Array.replicate (fn.ntmps - vals.size) undef, defers := [] } w := by
    refine ⟨⟨A, X, hI, fun k => ?_⟩, by have := hlen args hp hc; simp [hnt]; omega, rfl⟩
    rw [entry_t]
    refine ⟨fun _ => ?_, fun hh => by cases hh⟩
    simp only
    by_cases hk : k < args.length
    · have e1 : args.getD k .top = args[k] := by simp [List.getD, List.getElem?_eq_getElem hk]
      rw [e1]
      have := hargs k _ (List.getElem?_eq_getElem hk)
      have e2 : (vals ++ Array.replicate (fn.ntmps - vals.size) undef).getD k undef = vals.getD k und := by
        simp only [Array.getD_eq_getD_getElem?]
        rw [Array.getElem?_append_left (by omega)]
      rw [e2]; exact this
    · have e1 : args.getD k .top = .top := by simp [List.getD, List.getElem?_eq_none (Nat.le_of_not_lt hk)]
      rw [e1]; exact .pure (.top _)
  refine awp_sound hT c hok _ _ _ _ w hw hR fun e st' a' w' e' hq hR' he => ?_
  obtain ⟨hq1, hq2, hq3, hq4⟩ := hq
  have hR2 := hR'.weaken (st' := { t := st'.t, h := (S.go args hp).h }) ⟨fun k => .inr (.inl rfl), hq4⟩
  obtain ⟨⟨A', X', hI', ht'⟩, hsz', hdf'⟩ := hR'
  obtain ⟨v, hv1, hv2⟩ := rawR_sound (P := E.P) (fn := fn) hI' ht' hq2
  have hI2 : Inv ⟨w, A, X, ownM X hp⟩ w' A' X' (S.go args hp).h :=
    { abd := hI'.abd, aold := hI'.aold, akeep := hI'.akeep, os := hI'.os, tape := hI'.tape, output := hI'.output, size := hI'.size, same := hI'.same, xle := hI'.xle, nb := fun s => Nat.le_trans (hI'.nb s) (hq4.2 s), blk := fun s i B hg => hI'.blk s i B (hq4.1 s i B hg), inj := fun s i B s' i' B' hg hg' => hI'.inj s i B s' i' B' (hq4.1 s i B hg) (hq4.1 s' i' B' hg') }
  have hfin : a'.defers = [] ∧ ∃ v, (results fn a'.tmps).run E.P w' = .ok v w' ∧ ∃ v' A' X', Ending.returned v = .returned v' ∧ Inv ⟨w, A, X, ownM X hp⟩ w' A' X' (S.go args hp).h ∧ RV w' A' X' (S.go args hp).v v' :=
    ⟨hdf', v, hv1, v, A', X', rfl, hI2, sub_soundR hq3 hv2⟩
  cases e' <;> simp only [exOf, Option.some.injEq, reduceCtorEq] at he
  · exact hfin
  · subst he; rcases hq1 with hh | hh <;> cases hh
  · exact hfin

end
end Go.Sx
