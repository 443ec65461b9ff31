/- Code's soundness, a function's. No conditions. -/
import Derived.Test.YtomgmojjdgiieaaGreatP16
set_option linter.unusedSimpArgs false
set_option linter.unusedVariables false
set_option linter.unusedSectionVars false
namespace Go.Sx
open Go.RowKit
variable [Gls]
section
variable {F : Fr} {w : World} {A : Nat → Prop} {X : Refs} {h : Hp}
def exOf : Exit → Option Ex
  | .normal => some .normal
  | .exit id => some (.exit id)
  | .ret => some .ret
  | _ => none
omit [Gls] in
theorem HLe.refl (h : Hp) : HLe h h := ⟨⟨fun _ _ _ hg => hg, fun _ => Nat.le_refl _⟩, rfl, fun _ => rfl⟩
theorem R.weaken {nt : Nat} {st st' : St} {a : Act} {w : World} (hR : R F nt st a w) (hle : StLe st st') : R F nt st' a w := by
  obtain ⟨⟨A, X, hI, ht, hdf⟩, hsz⟩ := hR
  refine ⟨⟨A, X, hI.hle hle.h, fun k => ?_, hdf⟩, hsz⟩
  rcases hle.t k with h1 | h1 | ⟨x, h1, y, h2, h3⟩
  · rw [h1]; exact ⟨fun _ => .pure (.top _), fun hh => by cases hh⟩
  · rw [h1]; exact ht k
  · have := ht k
    rw [h1] at this
    rw [h2]; exact ⟨fun _ => sub_soundR h3 (this.1 rfl), fun hh => by cases hh⟩
theorem R2.weaken {E : Env} {K : Fr → Hp → Prop} {rd : Option Nat} (hK : KOK E K rd) {nt : Nat} {st st' : St} {a : Act} {w : World} (hR : R2 K nt st a w) (hle : StLe st st') : R2 K nt st' a w := by
  obtain ⟨F, hF, hR⟩ := hR
  exact ⟨F, hK.ys F _ _ hle.h.2.1 hF, hR.weaken hle⟩
theorem R2.ghost {E : Env} {K : Fr → Hp → Prop} {rd : Option Nat} (hK : KOK E K rd) {nt : Nat} {st st' : St} (hg : Gh st st') {a : Act} {w : World} : R2 K nt st a w → R2 K nt st' a w := by
  induction hg with
  | refl st => exact id
  | nil st st' k key z ty hk hz hy hh ih =>
    intro hR
    refine ih ?_
    obtain ⟨F, hF, ⟨A, X, hI, ht, hdf⟩, hsz⟩ := hR
    obtain ⟨X', hX, hI', hv⟩ := hI.promote key z ty
    refine ⟨F, hK.ys F _ _ (by simp only [hpush]; rw [if_neg (Ne.symm hy)]) hF, ⟨A, X', hI', fun k' => ?_, hdf.carry (.of (Later.refl w A) hX)⟩, hsz⟩
    simp only [upd]
    have h1 := ht k'
    by_cases e : k' = k
    · subst e
      rw [if_pos rfl]
      rw [hk] at h1
      have h2 := (h1.1 rfl).nil_inv
      have hb := hI'.blk key (hnext st.h key) _ (hget_push_new st.h key _)
      refine ⟨fun _ => ?_, fun hh => by cases hh⟩
      rw [h2]
      exact .bsl key _ 0 none 0 hb.hN (Nat.zero_le _) (fun _ => hv.symm)
    · rw [if_neg e]
      exact ⟨fun hh => (h1.1 hh).mono (Later.refl w A) hX, h1.2⟩
theorem R.frz {nt : Nat} : ∀ (l : List Nat) {st : St} {a : Act} {w : World}, R F nt st a w → (frzs l st).1 → R F nt (frzs l st).2 a w
  | [], st, a, w, hR, _ => hR
  | k :: r, st, a, w, hR, hc => by
    have step : (frzK k st).1 → R F nt (frzK k st).2 a w := by
      intro h1
      obtain ⟨⟨A, X, hI, ht, hdf⟩, hsz⟩ := hR
      have key : ∀ h', (∃ A', Later w A w A' ∧ Inv F w A' X h') → R F nt { t := st.t, h := h' } a w := by
        rintro h' ⟨A', hL, hI'⟩
        exact ⟨⟨A', X, hI', fun k => ⟨fun hh => ((ht k).1 hh).mono hL (Xle.refl X), (ht k).2⟩, hdf.carry (.of hL (Xle.refl X))⟩, hsz⟩
      unfold frzK at h1 ⊢
      by_cases hk : 1000000 ≤ k
      · rw [if_pos hk] at h1 ⊢
        clear hk
        revert h1
        generalize k - 1000000 = q
        intro h1
        unfold frzW at h1 ⊢
        cases hq : st.t (q % 1000) with
        | mk g v =>
        rw [hq] at h1
        cases v <;> simp only at h1 ⊢ <;> try exact h1.elim
        case nil => exact ⟨⟨A, X, hI, ht, hdf⟩, hsz⟩
        case sl z els => exact ⟨⟨A, X, hI, ht, hdf⟩, hsz⟩
        case emp => exact ⟨⟨A, X, hI, ht, hdf⟩, hsz⟩
        case bsl s i n =>
          cases hB : hget st.h s i with
          | none => rw [hB] at h1; exact h1.elim
          | some B =>
            rw [hB] at h1
            simp only at h1 ⊢
            obtain ⟨⟨rfl, hky⟩, c1, c2, c5⟩ := h1
            have hu := (ht (q % 1000)).1 (by rw [hq])
            rw [hq] at hu
            obtain ⟨ad, c, hval, hN, hn', hv⟩ := hu.bsl_inv
            have hb := hI.blk s i B hB
            have hv' := hv (by rw [hb.hlen]; exact c2)
            have hreal := hb.real c5
            rcases hb.mem with hm | ⟨arr, cap, g1, g2, g3, g4, g5, g6, g7, g8⟩
            · exact absurd hm.2 c5
            rw [g2] at hv'
            injection hv' with e1 e2 e3
            have hcap : (X.D s i).cap = cap := by unfold Hd.cap; rw [g2]
            obtain ⟨X', k1, k2, k3, k4⟩ := hI.moveW hB c1 (q / 1000) (off := 0) (k := n) (c := c) (a := ad) (by omega) (.inr ⟨(X.D s i).o, e1, hreal, by rw [hcap, e3]; exact Nat.le_refl _, by omega, by omega, .inr (by simp)⟩)
            have hB' : ({ B with els := (B.els.drop 0).take n } : Blk) = B := by rw [List.drop_zero, c2, List.take_length]
            rw [hB'] at k2
            refine ⟨⟨A, X', k2, fun j => ?_, hdf.carry (.of (Later.refl w A) k1)⟩, hsz⟩
            simp only [upd]
            by_cases hj : j = q % 1000
            · subst hj
              rw [if_pos rfl]
              refine ⟨fun _ => ?_, fun hh => by cases hh⟩
              rw [hval]; exact k3
            · rw [if_neg hj]
              exact ⟨fun hh => ((ht j).1 hh).mono (Later.refl w A) k1, (ht j).2⟩
        rename_i s i n off len cap
        cases hB : hget st.h s i with
        | none => rw [hB] at h1; exact h1.elim
        | some B =>
          rw [hB] at h1
          simp only at h1 ⊢
          obtain ⟨⟨rfl, hky⟩, c1, c2, c3, c4, c5⟩ := h1
          have hu := (ht (q % 1000)).1 (by rw [hq])
          rw [hq] at hu
          obtain ⟨ad, c, hval, hcc, hN, hn', hv⟩ := hu.osl_inv
          have hb := hI.blk s i B hB
          obtain ⟨v1, v2⟩ := hv (by rw [hb.hlen]; exact c2)
          have hreal := hb.real c5
          obtain ⟨X', k1, k2, k3, k4⟩ := hI.moveW hB c1 (q / 1000) (off := off) (k := len) (c := c) (a := some ad) (by omega) (.inr ⟨(X.D s i).o + off * B.z, by rw [v1, hb.hz], hreal, by
            have : (off + c) * B.z ≤ (X.D s i).cap * B.z := Nat.mul_le_mul_right _ v2
            rw [Nat.add_mul] at this; omega, by omega, by omega, .inr rfl⟩)
          refine ⟨⟨A, X', k2, fun j => ?_, hdf.carry (.of (Later.refl w A) k1)⟩, hsz⟩
          simp only [upd]
          by_cases hj : j = q % 1000
          · subst hj
            rw [if_pos rfl]
            refine ⟨fun _ => ?_, fun hh => by cases hh⟩
            rw [hval]; exact k3
          · rw [if_neg hj]
            exact ⟨fun hh => ((ht j).1 hh).mono (Later.refl w A) k1, (ht j).2⟩
      rw [if_neg hk] at h1 ⊢
      by_cases hk : 100000 ≤ k
      · rw [if_pos hk]; exact key _ (hI.freezeH _)
      rw [if_neg hk] at h1 ⊢
      by_cases hk : 50000 ≤ k
      · rw [if_pos hk] at h1 ⊢
        clear hk
        revert h1
        generalize k - 50000 = q
        intro h1
        simp only [frzP] at h1 ⊢
        refine ⟨⟨A, X, hI, fun j => ?_, hdf⟩, hsz⟩
        by_cases hj : j = q
        · subst hj
          simp only [upd, if_true]
          exact ⟨fun hh => .pure (fzN_sound hI 3 _ _ ((ht _).1 hh) h1.1.2 h1.2 (leaf_shape h1.1.1)), (ht _).2⟩
        · simp only [upd, hj, if_false]; exact ht j
      · rw [if_neg hk] at h1 ⊢
        cases hv : (st.t k).2 <;> rw [hv] at h1 <;> simp only [frz1] at h1 ⊢
        case bptr s i n e j =>
          cases hB : hget st.h s i with
          | none => simp [hB] at h1
          | some B => simp only []; exact key _ (hI.freeze hB)
        case bsl s i n =>
          cases hB : hget st.h s i with
          | none => simp [hB] at h1
          | some B => simp only []; exact key _ (hI.freeze hB)
        all_goals exact h1.elim
    simp only [frzs] at hc ⊢
    exact R.frz r (step hc.1) hc.2
theorem R2.frz {E : Env} {K : Fr → Hp → Prop} {rd : Option Nat} (hK : KOK E K rd) {nt : Nat} : ∀ (l : List Nat) {st : St} {a : Act} {w : World}, R2 K nt st a w → (frzs l st).1 → R2 K nt (frzs l st).2 a w
  | [], st, a, w, hR, _ => hR
  | k :: r, st, a, w, hR, hc => by
    simp only [frzs] at hc ⊢
    refine R2.frz hK r ?_ hc.2
    obtain ⟨F, hF, hR⟩ := hR
    refine ⟨F, hK.frz F k st hF hc.1, ?_⟩
    have := R.frz [k] hR (by simp only [frzs]; exact ⟨hc.1, trivial⟩)
    simpa only [frzs] using this
def K1 (F0 : Fr) (F : Fr) (_ : Hp) : Prop := F = F0
theorem K1.ok {E : Env} (hy : E.yl = none) (F0 : Fr) (rd : Option Nat) (hrd : ∀ l, rd = some l → ¬ F0.M l ∧ ∃ r, F0.w0.heap[l]? = some (.loop r)) : KOK E (K1 F0) rd where
  ys := fun _ _ _ _ h => h
  sem := fun _ _ _ _ _ _ h _ => h
  frz := fun _ _ _ h _ => h
  rf := fun _ _ _ _ h => h
  rd := fun l hl F h hF => by rw [hF]; exact hrd l hl
  sp := fun l Y hl => by rw [hy] at hl; cases hl
theorem R2.k1 {F0 : Fr} {nt : Nat} {st : St} {a : Act} {w : World} : R2 (K1 F0) nt st a w ↔ R F0 nt st a w :=
  ⟨fun ⟨F, hF, hR⟩ => by rw [hF] at hR; exact hR, fun h => ⟨F0, rfl, h⟩⟩
omit [Gls] in
theorem setT_get {w : World} {A : Nat → Prop} {X : Refs} {nt : Nat} : ∀ (ps : List Nat) (xs : List V) (us : List Value) (t : Nat → Bool × V) (tm : Array Value), ps.length = xs.length → us.length = xs.length → (∀ p ∈ ps, p < nt) → tm.size = nt →
    (∀ (i : Nat) (c : V), xs[i]? = some c → RV w A X c (us.getD i und)) →
    (∀ k, ((t k).1 = true → RV w A X (t k).2 (tm.getD k undef)) ∧ ((t k).1 = false → tm.getD k undef = undef)) →
    ((ps.zip us).foldl (fun tmps (p : Nat × Value) => tmps.setIfInBounds p.1 p.2) tm).size = nt ∧
    ∀ k, ((setT t ps xs k).1 = true → RV w A X (setT t ps xs k).2 (((ps.zip us).foldl (fun tmps (p : Nat × Value) => tmps.setIfInBounds p.1 p.2) tm).getD k undef)) ∧ ((setT t ps xs k).1 = false → ((ps.zip us).foldl (fun tmps (p : Nat × Value) => tmps.setIfInBounds p.1 p.2) tm).getD k undef = undef)
  | [], [], us, t, tm, _, _, _, hs, _, ht => ⟨hs, ht⟩
  | [], _ :: _, _, _, _, hl, _, _, _, _, _ => by simp at hl
  | _ :: _, [], _, _, _, hl, _, _, _, _, _ => by simp at hl
  | p :: ps, x :: xs, [], t, tm, _, hu, _, _, _, _ => by simp at hu
  | p :: ps, x :: xs, u :: us, t, tm, hl, hu, hp, hs, hx, ht => by
    simp only [List.zip_cons_cons, List.foldl_cons, setT]
    refine setT_get ps xs us _ _ (by simpa using hl) (by simpa using hu) (fun q hq => hp q (List.mem_cons_of_mem _ hq)) (by simpa using hs) (fun i c hi => by simpa using hx (i + 1) c (by simpa using hi)) fun k => ?_
    have hpn := hp p List.mem_cons_self
    simp only [upd, Array.getD_eq_getD_getElem?, Array.getElem?_setIfInBounds]
    by_cases e : k = p
    · subst e
      rw [if_pos rfl, if_pos rfl, if_pos (by omega)]
      have := hx 0 x rfl
      exact ⟨fun _ => by simpa using this, fun h => by cases h⟩
    · rw [if_neg e, if_neg (Ne.symm e)]
      have := ht k
      simp only [Array.getD_eq_getD_getElem?] at this
      exact this
theorem awp_soundK {E : Env} (hT : TblOK E) {ok : Alts} : ∀ (c : Code) (hok : drawsOk E ok c = true) (K : Fr → Hp → Prop) (rd : Option Nat) (hKK : KOK E K rd) (n : Nat) (st : St) (QA : Ex → St → Prop) (Q : Exit → Act → World → Prop) (a : Act) (w : World), awp E ok c st QA → R2 K E.nt st a w →
    (∀ e st' a' w' e', QA e st' → R2 K E.nt st' a' w' → exOf e' = some e → Q e' a' w') → c.wpIn (wideR rd) n E.P Q a w := by
  intro c
  induction c with
  | skip => intro hok K rd hKK n st QA Q a w h hR hQ; exact wpIn_skip (hQ _ _ _ _ .normal h hR rfl)
  | ret => intro hok K rd hKK n st QA Q a w h hR hQ; exact wpIn_ret (hQ _ _ _ _ .ret h hR rfl)
  | exit id => intro hok K rd hKK n st QA Q a w h hR hQ; exact wpIn_exit (hQ _ _ _ _ (.exit id) h hR rfl)
  | region id ops draw =>
    intro hok K rd hKK n st QA Q a w h hR hQ
    simp only [awp] at h
    have hR := hR.frz hKK _ h.1
    have h := h.2
    revert h hR
    generalize (frzs (lkf E.frz id) st).2 = st
    intro hR h
    cases draw with
    | false =>
      simp only at h
      cases hr : runL E ops.toList ops.toList st with
      | mk c st' =>
        rw [hr] at h
        refine wpIn_region_list ?_
        have := runK (Q := Q) (n := n) hT hKK (ops := ops.toList) ops.toList st a w hR (by rw [hr]; exact h.1) (fun a' w' hR' => hQ _ _ _ _ .normal h.2 (by rw [hr] at hR'; exact hR') rfl)
        simpa using this
    | true =>
      simp only [drawsOk] at hok
      cases hl : ok.lookup id with
      | none =>
        rw [hl] at h hok
        simp only at hok
        refine drawK hT hKK hok hR ?_
        simp only [runs]
        have hrl := runI_runL (E := E) (ops := ops.toList) (fr := []) (List.range ops.toList.length) st
        have hlr := runL_runI (E := E) (ops := ops.toList) (List.range ops.toList.length) st
        rw [range_filterMap] at hrl hlr
        rw [hrl.2]
        cases hr : runL E ops.toList ops.toList st with
        | mk c st' =>
          rw [hr] at h hlr
          exact ⟨⟨hlr h.1, fun a' w' hR' => hQ _ _ _ _ .normal h.2 hR' rfl⟩, trivial⟩
      | some p =>
        obtain ⟨fr, cs⟩ := p
        rw [hl] at h hok
        simp only at hok
        refine drawK hT hKK hok hR ?_
        simp only at h
        have mono : ∀ (cs : List (List Nat)) {K K' : St → Prop}, (∀ s, K s → K' s) → runs E ops.toList fr cs st K → runs E ops.toList fr cs st K' := by
          intro cs K K' hk
          induction cs with
          | nil => intro h; exact h
          | cons c cs ih => intro h; exact ⟨⟨h.1.1, hk _ h.1.2⟩, ih h.2⟩
        exact mono cs (fun s hs a' w' hR' => hQ _ _ _ _ .normal hs hR' rfl) h
  | seq x y ihx ihy =>
    intro hok K rd hKK n st QA Q a w h hR hQ
    simp only [awp] at h
    simp only [drawsOk, Bool.and_eq_true] at hok
    refine wpIn_seq (ihx hok.1 K rd hKK n st _ _ a w h hR fun e st' a' w' e' hq hR' he => ?_)
    cases e' <;> simp only [exOf, Option.some.injEq, reduceCtorEq] at he
    · subst he; exact ihy hok.2 K rd hKK n st' QA Q a' w' hq hR' hQ
    · subst he; exact hQ _ _ _ _ _ hq hR' rfl
    · subst he; exact hQ _ _ _ _ _ hq hR' rfl
  | cond c x y ihx ihy =>
    intro hok K rd hKK n st QA Q a w h hR hQ
    simp only [awp] at h
    simp only [drawsOk, Bool.and_eq_true] at hok
    cases hev : ev st c with
    | mk g v =>
    rw [hev] at h
    cases v with
    | bool b =>
      simp only at h
      obtain ⟨hg, h1, h2⟩ := h
      have hc : a.eval c = .bool b := by
        obtain ⟨F, hF, ⟨A, X, hI, ht, _⟩, _⟩ := hR
        cases c with
        | tmp k =>
          have hk : st.t k = (g, .bool b) := hev
          have := ht k
          rw [hk] at this
          exact (this.1 hg).bool_inv
        | const v =>
          simp only [ev, Prod.mk.injEq] at hev
          have := pv_ofVal w A v
          rw [hev.2] at this
          cases this; rfl
        | global g =>
          simp only [ev, Prod.mk.injEq] at hev
          cases hG : Gls.G g with
          | none => rw [hG] at hev; simp at hev
          | some v =>
            have := hI.gl g v hG
            rw [hG] at hev
            simp only [Option.getD_some] at hev
            rw [hev.2] at this
            cases this
        | func f => simp [ev] at hev
      refine wpIn_cond hc ?_
      cases b with
      | true => exact ihx hok.1 K rd hKK n st QA Q a w (h1 rfl) hR hQ
      | false => exact ihy hok.2 K rd hKK n st QA Q a w (h2 rfl) hR hQ
    | anyb =>
      simp only at h
      obtain ⟨hg, h1, h2⟩ := h
      have hc : ∃ b, a.eval c = .bool b := by
        obtain ⟨F, hF, ⟨A, X, hI, ht, _⟩, _⟩ := hR
        cases c with
        | tmp k =>
          have hk : st.t k = (g, .anyb) := hev
          have := ht k
          rw [hk] at this
          exact (this.1 hg).anyb_inv
        | const v =>
          simp only [ev, Prod.mk.injEq] at hev
          have := pv_ofVal w A v
          rw [hev.2] at this
          cases this; exact ⟨_, rfl⟩
        | global g =>
          simp only [ev, Prod.mk.injEq] at hev
          cases hG : Gls.G g with
          | none => rw [hG] at hev; simp at hev
          | some v =>
            have := hI.gl g v hG
            rw [hG] at hev
            simp only [Option.getD_some] at hev
            rw [hev.2] at this
            cases this
        | func f => simp [ev] at hev
      obtain ⟨b, hc⟩ := hc
      refine wpIn_cond hc ?_
      cases b with
      | true => exact ihx hok.1 K rd hKK n st QA Q a w h1 hR hQ
      | false => exact ihy hok.2 K rd hKK n st QA Q a w h2 hR hQ
    | _ => exact h.elim
  | block id c ih =>
    intro hok K rd hKK n st QA Q a w h hR hQ
    simp only [awp] at h
    refine wpIn_block (ih hok K rd hKK n st _ _ a w h hR fun e st' a' w' e' hq hR' he => ?_)
    cases e' <;> simp only [exOf, Option.some.injEq, reduceCtorEq] at he
    · subst he; exact hQ _ _ _ _ .normal hq hR' rfl
    · rename_i i
      subst he
      simp only [Exit.inBlock]
      simp only at hq
      by_cases hi : i = id
      · rw [if_pos hi] at hq ⊢; exact hQ _ _ _ _ .normal hq hR' rfl
      · rw [if_neg hi] at hq ⊢; exact hQ _ _ _ _ (.exit i) hq hR' rfl
    · subst he; exact hQ _ _ _ _ .ret hq hR' rfl
  | loop c ih =>
    intro hok K rd hKK n st QA Q a w h hR hQ
    simp only [awp] at h
    obtain ⟨ι, I, m, i0, ⟨st1, hgh, hle⟩, hbody⟩ := h
    have hR0 := (hR.ghost hKK hgh).weaken hKK hle
    intro b k cs hro hb hr
    have key : ∀ (j : Nat) (i : ι), m i = j → ∀ a w, R2 K E.nt (I i) a w →
        ∃ e a' w', Q e a' w' ∧ ArrivesIn (Machine.fenced E.P (wideR rd)) E.P (lone (b.atR a (.code c :: .inLoop c :: k)) cs w) b k cs e a' w' := by
      intro j
      induction j using Nat.strongRecOn with
      | _ j ihn =>
        intro i hi a w hR
        have hb' := ih hok K rd hKK n (I i) _ (Exit.then (fun a' w' => ∃ j, R2 K E.nt (I j) a' w' ∧ m j < m i) Q) a w (hbody i) hR (fun e st' a' w' e' hq hR' he => by
          cases e' <;> simp only [exOf, Option.some.injEq, reduceCtorEq] at he
          · subst he
            obtain ⟨j, hle', hlt⟩ := hq
            exact ⟨j, hR'.weaken hKK hle', hlt⟩
          · subst he; exact hQ _ _ _ _ _ hq hR' rfl
          · subst he; exact hQ _ _ _ _ _ hq hR' rfl)
        obtain ⟨e, a₁, w₁, hq, harr⟩ := hb' b (.inLoop c :: k) cs hro hb hr
        cases e with
        | normal =>
          obtain ⟨j', hRj, hlt⟩ := hq
          obtain ⟨e₂, a₂, w₂, hq₂, harr₂⟩ := ihn (m j') (hi ▸ hlt) j' rfl a₁ w₁ hRj
          exact ⟨e₂, a₂, w₂, hq₂, .of_steps (StepsIn.trans harr (.one (fenced_calm hb hr rfl) stepR_inLoop)) harr₂⟩
        | exit id => exact ⟨_, a₁, w₁, hq, .pass (x := .inLoop c) rfl (fun _ _ => .inl (by simp)) harr⟩
        | goto l => exact ⟨_, a₁, w₁, hq, .pass (x := .inLoop c) rfl (fun _ _ => .inl (by simp)) harr⟩
        | ret => exact ⟨_, a₁, w₁, hq, .pass (x := .inLoop c) rfl (fun _ _ => .inl (by simp)) harr⟩
        | panic ch => exact ⟨_, a₁, w₁, hq, .pass (x := .inLoop c) rfl (fun _ _ => .inl (by simp)) harr⟩
        | outgrown => exact ⟨_, a₁, w₁, hq, .pass (x := .inLoop c) rfl (fun _ _ => .inl (by simp)) harr⟩
    obtain ⟨e, a', w', hq, harr⟩ := key (m i0) i0 rfl a w hR0
    exact ⟨e, a', w', hq, .of_steps (.one (fenced_calm hb hr rfl) stepR_loop) harr⟩
  | rangeFunc g ps assign body iha ihb =>
    intro hok K rd hKK n st QA Q a w h hR hQ
    simp only [drawsOk, Bool.and_eq_true] at hok
    simp only [awp] at h
    obtain ⟨hyl, it, caps, S, Y, e0, ⟨⟨hev, hit⟩, hps⟩, hround, hafter⟩ := h
    obtain ⟨F, hF, ⟨A, X, hI, ht, hmk⟩, hsz⟩ := hR
    have hg : RV w A X (.fn it caps) (a.eval g) := by
      cases g with
      | tmp k => have := ht k; rw [show st.t k = (true, .fn it caps) from hev] at this; exact this.1 rfl
      | const v =>
        simp only [ev, Prod.mk.injEq, true_and] at hev
        have := pv_ofVal w A v
        rw [hev] at this
        exact .pure this
      | global g =>
        simp only [ev, Prod.mk.injEq, true_and] at hev
        cases hG : Gls.G g with
        | none => rw [hG] at hev; simp at hev
        | some v =>
          have := hI.gl g v hG
          rw [hG] at hev
          simp only [Option.getD_some] at hev
          rw [hev] at this
          cases this
      | func f =>
        simp only [ev, Prod.mk.injEq, true_and, V.fn.injEq] at hev
        obtain ⟨rfl, rfl⟩ := hev
        exact .pure (.fn _ [] #[] rfl (by simp))
    obtain ⟨us, hgu, husz, hus⟩ := hg.fn_inv
    refine wpIn_rangeFunc fun fn _ => ?_
    obtain ⟨l, mark, w1, D, hent, hle1, hbw, hl1, hmk1⟩ : ∃ l mark w1 D,
        (Instr.enterLoop fn a.tmps ps assign body (wideR rd).round).run E.P w = .ok (l, mark) w1 ∧ w.heap.size ≤ l ∧ Below w.heap.size w w1 ∧
        w1.heap[l]? = some (.loop { state := .ready, pending := none, fn, tmps := a.tmps, params := ps, assign, body, defers := D }) ∧
        Mk F.w0.heap.size A w1 (mark ++ a.defers) := by
      have hsF := hI.size
      cases rd with
      | none =>
        refine ⟨_, _, _, w.heap.size, run_enterLoop_outer fn a.tmps ps assign body, by omega, ?_, ?_, ?_⟩
        · exact ((Below.refl w.heap.size w).alloc (Nat.le_refl _) _).alloc (by simp) _
        · have := World.alloc_heap_new (w.alloc (.deferred (some []))) (.loop { state := .ready, pending := none, fn, tmps := a.tmps, params := ps, assign, body, defers := w.heap.size })
          rw [World.size_alloc] at this; exact this
        · have hD : (w.alloc (.deferred (some []))).heap[w.heap.size]? = some (.deferred (some [])) := World.alloc_heap_new w _
          have hbw : Below w.heap.size w ((w.alloc (.deferred (some []))).alloc (.loop { state := .ready, pending := none, fn, tmps := a.tmps, params := ps, assign, body, defers := w.heap.size })) := ((Below.refl w.heap.size w).alloc (Nat.le_refl _) _).alloc (by simp) _
          have hold := hmk.carry (Carry.of (hI.below hbw).1 (Xle.refl X))
          refine ⟨List.pairwise_cons.2 ⟨fun d hd e => ?_, hold.1⟩, fun d hd => ?_⟩
          · obtain ⟨D', e', _, h3, _⟩ := hmk.2 d hd
            rw [← e] at e'
            injection e' with e1
            injection e1 with e1
            have := (Array.getElem?_eq_some_iff.1 h3).1
            omega
          · rcases List.mem_cons.1 hd with rfl | hd
            · refine ⟨w.heap.size, rfl, hsF, ?_, fun hA => by have := hI.abd _ hA; omega⟩
              exact (Below.heap_alloc _ _ _ (by simp)).trans hD
            · exact hold.2 d hd
      | some l0 =>
        obtain ⟨hM, r0, hr0⟩ := hKK.rd l0 rfl F _ hF
        have hlt0 := (Array.getElem?_eq_some_iff.1 hr0).1
        have hw0 : w.heap[l0]? = some (.loop r0) := (hI.same l0 hlt0 hM).trans hr0
        have hbw : Below w.heap.size w (w.alloc (.loop { state := .ready, pending := none, fn, tmps := a.tmps, params := ps, assign, body, defers := r0.defers })) := (Below.refl w.heap.size w).alloc (Nat.le_refl _) _
        exact ⟨_, _, _, r0.defers, run_enterLoop_inner hw0 fn a.tmps ps assign body, by omega, hbw, World.alloc_heap_new w _, hmk.carry (Carry.of (hI.below hbw).1 (Xle.refl X))⟩
    obtain ⟨hL1, hI1⟩ := hI.below hbw
    have hg1 := hg.mono hL1 (Xle.refl X)
    have hI1h := hI1.hfl false
    have hI1s := hI1h.self
    have hlA : ¬ A l := fun hA => by have := hI.abd _ hA; omega
    refine ⟨l, mark, w1, { target := .fn (.func it) us, args := #[.func (.yield l) #[] #[]] }, w1, it, #[.func (.yield l) #[] #[]] ++ us, w1, hent, ?_, fun _ _ => trivial, ?_, (fun hd => by cases hd), ?_⟩
    · simp only [resolve, hgu]
      simp [go_sem]
    · have := (hT it _ hit).call
      simp only [invoke, this]
    obtain ⟨rec, hrec⟩ : ∃ rec : Loop, rec = { state := .ready, pending := none, fn, tmps := a.tmps, params := ps, assign, body, defers := D } := ⟨_, rfl⟩
    rw [← hrec] at hl1
    have hl1lt := (Array.getElem?_eq_some_iff.1 hl1).1
    obtain ⟨hac, hanorm, hastop⟩ := hafter l
    let B : World → (Nat → Prop) → Refs → Prop := fun w' A' X' => Later w1 A w' A' ∧ Xle X X' ∧ w'.heap[l]? = some (.loop rec) ∧ ¬ A' l
    have hB : BStab l B := by
      refine ⟨fun w' A' X' hb => ⟨rec, hb.2.2.1⟩, fun w' A' X' h w'' A'' X'' h'' hb hs hI'' => ?_⟩
      obtain ⟨k1, k2, _⟩ := hs.back hI''
      have := k1.2 l (Array.getElem?_eq_some_iff.1 hb.2.2.1).1 hb.2.2.2
      exact ⟨hb.1.trans k1, hb.2.1.trans k2, this.1.trans hb.2.2.1, this.2⟩
    let Pr : Loop → Prop := fun r => r.state = .done ∧ ∃ c : Code, r.pending = some c ∧ ((c = .ret ∧ e0 = .ret) ∨ ∃ id, c = .exit id ∧ e0 = .exit id)
    have hY : YOK0 E.P l Pr Y B := by
      intro args h hc
      obtain ⟨⟨hy1, hy2⟩, hlen, hwa⟩ := hround args h hc
      refine ⟨hy1, hy2, fun w' A' X' vals hb hs hvsz hvals => ?_⟩
      obtain ⟨hbL, hbX, hbl, hbA⟩ := hb
      have hblt := (Array.getElem?_eq_some_iff.1 hbl).1
      have hyr := run_yield (P := E.P) (args := vals) hbl (by rw [hrec]; simp only; omega)
      refine ⟨_, _, _, _, hyr, roundIn_of_wpIn (F := Fence.wide) trivial ?_⟩
      have hrt : rec.tmps = a.tmps := by rw [hrec]
      have hra : rec.assign = assign := by rw [hrec]
      have hrb : rec.body = body := by rw [hrec]
      have hrp : rec.params = ps := by rw [hrec]
      rw [hrt, hra, hrb, hrp]
      have htl := setT_get (w := w') (A := A') (X := X') (nt := E.nt) ps.toList args vals.toList st.t a.tmps (by simp; omega) (by simpa using hvsz) (fun p hp => by
        have := List.all_eq_true.1 hps p hp; simpa using this) hsz (fun i c hi => by
        have := hvals i c hi
        simpa [Array.getD_eq_getD_getElem?, List.getD] using this) (fun k => ⟨fun hh => (((ht k).1 hh).mono hL1 (Xle.refl X)).mono hbL hbX, (ht k).2⟩)
      have hfold : (ps.zip vals).foldl (fun tmps (x : Nat × Value) => match x with | (t, a) => tmps.setIfInBounds t a) a.tmps = (ps.toList.zip vals.toList).foldl (fun tmps (p : Nat × Value) => tmps.setIfInBounds p.1 p.2) a.tmps := by
        rw [← Array.foldl_toList, Array.toList_zip]
      have hMn := hs.not_own hbl rfl
      have hKa : KOK E (K1 ⟨w', A', X', ownM X' h⟩) (some l) := K1.ok hyl _ _ fun l' e => by cases e; exact ⟨hMn, _, hbl⟩
      have hRa : R2 (K1 ⟨w', A', X', ownM X' h⟩) E.nt { t := setT st.t ps.toList args, h := h } { tmps := (ps.zip vals).foldl (fun tmps (x : Nat × Value) => match x with | (t, a) => tmps.setIfInBounds t a) a.tmps, defers := [] } w' := by
        refine R2.k1.2 ⟨⟨A', X', hs, ?_, Mk.nil _ _ _⟩, ?_⟩
        · simp only [hfold]; exact htl.2
        · simp only [hfold]; exact htl.1
      refine iha hok.1 _ (some l) hKa 0 _ _ _ _ w' hwa hRa fun e st1 a1 wa e' hq hR1 he => ?_
      have hex : e = .normal := by cases e <;> first | rfl | exact hq.elim
      subst hex
      cases e' <;> simp only [exOf, Option.some.injEq, reduceCtorEq] at he
      obtain ⟨⟨A1, X1, hIa, hta, hmka⟩, hsza⟩ := R2.k1.1 hR1
      have hla : wa.heap[l]? = some (.loop rec) := (hIa.same l hblt hMn).trans hbl
      have hlalt := (Array.getElem?_eq_some_iff.1 hla).1
      have hla1 : ¬ A1 l := fun hA => hbA (hIa.aold l hblt hA)
      refine ⟨_, run_beginRound hla (by rw [hrec]), ?_⟩
      have hIb := hIa.put_old { rec with state := .busy } hla rfl hblt
      have hlb : (wa.putObj l (.loop { rec with state := .busy })).heap[l]? = some (.loop { rec with state := .busy }) := World.putObj_heap_same hlalt
      have hfb : (Fr.stop ⟨w', A', X', ownM X' h⟩ l { rec with state := .busy }).w0.heap[l]? = some (.loop { rec with state := .busy }) := World.putObj_heap_same hblt
      have hKb : KOK E (K1 (Fr.stop ⟨w', A', X', ownM X' h⟩ l { rec with state := .busy })) (some l) := K1.ok hyl _ _ fun l' e => by cases e; exact ⟨hMn, _, hfb⟩
      have hRb : R2 (K1 (Fr.stop ⟨w', A', X', ownM X' h⟩ l { rec with state := .busy })) E.nt st1 a1 (wa.putObj l (.loop { rec with state := .busy })) := by
        refine R2.k1.2 ⟨⟨A1, X1, hIb, fun k => ⟨fun hh => ((hta k).1 hh).calm (Calm.put _ hla rfl), (hta k).2⟩, ?_⟩, hsza⟩
        have := hmka.carry (Carry.put (X := X1) (.loop { rec with state := .busy }) hla)
        simpa [Fr.stop] using this
      refine ihb hok.2 _ (some l) hKb 0 _ _ _ _ _ hq hRb fun e st2 a2 w3 e' hq2 hR2' he2 => ?_
      obtain ⟨⟨A3, X3, hI3', ht3, hmk3⟩, hsz3⟩ := R2.k1.1 hR2'
      have hl3 : w3.heap[l]? = some (.loop { rec with state := .busy }) := (hI3'.same l (by simpa [Fr.stop] using hblt) hMn).trans hfb
      have stop : ∀ (c : Code), (c = .ret ∧ e0 = .ret) ∨ (∃ id, c = .exit id ∧ e0 = .exit id) → (Y.go args h).v = .bool false → HLe (hfl st2.h true) (Y.go args h).h →
          ∃ v w4, (Instr.endRound l (some c)).run E.P w3 = .ok v w4 ∧ ∃ v' A9 X9, Ending.returned v = .returned v' ∧ Ends ⟨w', A', X', ownM X' h⟩ l Pr w4 A9 X9 (Y.go args h).h ∧ RV w4 A9 X9 (Y.go args h).v v' := by
        intro c hce hv hh
        refine ⟨_, _, run_endRound (some c) hl3, _, A3, X3, rfl, ⟨?_, .inr ⟨?_, { rec with state := .done, pending := some c }, ⟨rfl, c, rfl, hce⟩, ?_⟩⟩, ?_⟩
        · rw [hh.2.1]; simp [hfl]
        · rw [hh.2.1]; simp [hfl]
        · have := hI3'.put_again { rec with state := .done, pending := some c } hl3 rfl hblt
          exact (this.hfl true).hle hh
        · rw [hv]; exact .pure (.bool _)
      cases e' <;> simp only [exOf, Option.some.injEq, reduceCtorEq] at he2
      · subst he2
        obtain ⟨hv, hh⟩ := hq2
        refine ⟨_, _, run_endRound none hl3, _, A3, X3, rfl, ⟨?_, .inl ⟨?_, ?_⟩⟩, ?_⟩
        · rw [hh.2.1]; simp [hfl]
        · rw [hh.2.1]; simp [hfl]
        · have hrr : ({ ({ rec with state := .busy } : Loop) with state := if (none : Option Code).isNone then .ready else .done, pending := none } : Loop) = rec := by rw [hrec]; rfl
          rw [hrr]
          exact ((hI3'.put_back hl3 rfl hbl).hfl false).hle hh
        · rw [hv]; exact .pure (.bool _)
      · rename_i id
        subst he2
        obtain ⟨h0, hv, hh⟩ := hq2
        exact stop (.exit id) (.inr ⟨id, rfl, h0⟩) hv hh
      · subst he2
        obtain ⟨h0, hv, hh⟩ := hq2
        exact stop .ret (.inl ⟨rfl, h0⟩) hv hh
    have hargsz : (#[.func (.yield l) #[] #[]] ++ us : Array Value).size = (V.yld l :: caps).length := by simp [husz]; omega
    have hargs : ∀ (i : Nat) (c : V), (V.yld l :: caps)[i]? = some c → RV w1 A X c ((#[.func (.yield l) #[] #[]] ++ us : Array Value).getD i und) := by
      intro i c hi
      cases i with
      | zero =>
        simp at hi; subst hi
        have e : (#[.func (.yield l) #[] #[]] ++ us : Array Value).getD 0 und = .func (.yield l) #[] #[] := by
          simp [Array.getD_eq_getD_getElem?, Array.getElem?_append]
        rw [e]; exact .pure (.yld l)
      | succ i =>
        have e : (#[.func (.yield l) #[] #[]] ++ us : Array Value).getD (i + 1) und = us.getD i und := by
          simp [Array.getD_eq_getD_getElem?, Array.getElem?_append]
        rw [e]
        exact (hus i c (by simpa using hi)).mono hL1 (Xle.refl X)
    refine callsIn_wideR.2 (((hT it _ hit).iter S rfl l Y Pr B hB hY _ (hfl st.h false) hac (by simp [hfl]) (by simp [hfl]) w1 A X _ ⟨Later.refl _ _, Xle.refl _, hl1, hlA⟩ hI1s hargsz hargs).mono ?_)
    rintro e w2 ⟨v, A2, X2, rfl, ⟨hbl2, hend⟩, hv2⟩
    have hMl := hI1s.not_own hl1 rfl
    rcases hend with ⟨hfl2, hI2⟩ | ⟨hfl2, r, ⟨hrs, cj, hrp, hcj⟩, hI2⟩
    · -- it has gone to its end
      have hl2 : w2.heap[l]? = some (.loop rec) := (hI2.same l hl1lt hMl).trans hl1
      have hpn : rec.pending = none := by rw [hrec]
      refine ⟨none, w2.putObj l (.loop { rec with state := .exhausted }), ?_, ?_⟩
      · have := run_endLoop (P := E.P) hl2 (by rw [hrec]; simp)
        exact this.trans (by rw [hpn])
      · obtain ⟨k1, k2, k3⟩ := hI1h.back hI2
        have hcar : Carry w1 A X w2 A2 X2 := .of k1 k2
        have hcar3 : Carry w1 A X (w2.putObj l (.loop { rec with state := .exhausted })) A2 X2 := hcar.trans (.put _ hl2)
        refine hQ _ _ _ _ .normal (hanorm hfl2) ⟨F, hKK.rf hyl F _ _ hF, ⟨A2, X2, ?_, fun k => ⟨fun hh => hcar3.rv _ _ (((ht k).1 hh).mono hL1 (Xle.refl X)), (ht k).2⟩, hmk1.carry hcar3⟩, hsz⟩ rfl
        have := hI.size
        exact (k3.put_new _ hl2 rfl (by omega)).hfl false
    · -- a round has left it
      have hl2 : w2.heap[l]? = some (.loop r) := (hI2.same l (by simp [Fr.stop]; exact hl1lt) hMl).trans (World.putObj_heap_same hl1lt)
      obtain ⟨hne, hQ0⟩ := hastop hfl2
      refine ⟨some cj, w2.putObj l (.loop { r with state := .exhausted }), ?_, ?_⟩
      · have := run_endLoop (P := E.P) hl2 (by rw [hrs]; simp)
        exact this.trans (by rw [hrp])
      · have hFs : Inv (F.stop l r) (w1.putObj l (.loop r)) A X (hfl st.h false) → True := fun _ => trivial
        have hI1p : Inv F (w1.putObj l (.loop r)) A X (hfl st.h false) := by
          have := hI.size
          exact hI1h.put_new _ hl1 rfl (by omega)
        obtain ⟨k1, k2, k3⟩ := hI1p.back hI2
        have hcar : Carry w1 A X w2 A2 X2 := (Carry.put _ hl1).trans (.of k1 k2)
        have hcar3 : Carry w1 A X (w2.putObj l (.loop { r with state := .exhausted })) A2 X2 := hcar.trans (.put _ hl2)
        have hRf : R2 K E.nt { t := st.t, h := hfl ((S l Y).go (.yld l :: caps) (hfl st.h false)).h false } { a with defers := mark ++ a.defers } (w2.putObj l (.loop { r with state := .exhausted })) := by
          refine ⟨F, hKK.rf hyl F _ _ hF, ⟨A2, X2, ?_, fun k => ⟨fun hh => hcar3.rv _ _ (((ht k).1 hh).mono hL1 (Xle.refl X)), (ht k).2⟩, hmk1.carry hcar3⟩, hsz⟩
          have := hI.size
          exact (k3.put_new _ hl2 rfl (by omega)).hfl false
        rcases hcj with ⟨rfl, he0⟩ | ⟨id, rfl, he0⟩
        · subst he0; exact wpIn_ret (hQ _ _ _ _ .ret hQ0 hRf rfl)
        · subst he0; exact wpIn_exit (hQ _ _ _ _ (.exit id) hQ0 hRf rfl)
  | _ => intro hok K rd hKK n st QA Q a w h; exact h.elim
end
end Go.Sx
