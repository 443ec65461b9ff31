/- A part of a proof; no conditions. -/
import Derived.Test.YtnpdjaikmdagmaaP10
import Derived.WalkKit
set_option linter.unusedSimpArgs false
set_option linter.unusedVariables false
set_option linter.unusedSectionVars false
section
/- Loops over functions: rules. No conditions. -/
set_option linter.unusedSimpArgs false
namespace Go.Sx
open Go.RowKit
variable [Gls]

omit [Gls] in
theorem hfl_ys (h : Hp) (b : Bool) : hfl h b YS = { base := hnext h YS, blks := [], fl := b } := by simp [hfl]
omit [Gls] in
theorem hfl_ne (h : Hp) (b : Bool) {k : Nat} (hk : k ≠ YS) : hfl h b k = h k := by simp [hfl, hk]
omit [Gls] in
theorem hfl_self {h : Hp} (h1 : (h YS).blks = []) (h2 : (h YS).fl = false) : hfl h false = h := by
  funext k
  unfold hfl
  split
  · rename_i e
    subst e
    cases hh : h YS with
    | mk base blks fl =>
      rw [hh] at h1 h2
      simp only at h1 h2
      subst h1 h2
      simp [hnext, hh]
  · rfl
omit [Gls] in
theorem hps_app (L L' : List (Nat × Site)) (H : Hp) : hps L (hps L' H) = hps (L ++ L') H := by
  funext k
  induction L with
  | nil => rfl
  | cons p L ih =>
    obtain ⟨a, S⟩ := p
    simp only [List.cons_append, hps]
    split
    · rfl
    · exact ih
omit [Gls] in
theorem hps_mem {L : List (Nat × Site)} {H H' : Hp} {k : Nat} (h : k ∈ L.map (·.1)) : hps L H k = hps L H' k := by
  induction L with
  | nil => simp at h
  | cons p L ih =>
    obtain ⟨a, S⟩ := p
    simp only [hps]
    split
    · rfl
    · rename_i hne
      refine ih ?_
      simp only [List.map_cons, List.mem_cons] at h
      rcases h with h | h
      · exact absurd h hne
      · exact h
omit [Gls] in
theorem hps_self {L : List (Nat × Site)} {H : Hp} (h : ∀ k ∈ L.map (·.1), H k = hps L noH k) : hps L H = H := by
  funext k
  by_cases hk : k ∈ L.map (·.1)
  · rw [h k hk]; exact hps_mem hk
  · exact hps_not hk

/-- What a round says of a heap is no matter of the iterator's own sites. -/
structure Loc (Y : HSpec) (own ro : List Nat) : Prop where
  loc : ∀ (L : List (Nat × Site)), (∀ k ∈ L.map (·.1), k ∈ own) → ∀ x h, (Y.go x h).c → (Y.go x (hps L h)).c ∧ (Y.go x (hps L h)).v = (Y.go x h).v ∧ (Y.go x (hps L h)).h = hps L (Y.go x h).h
  ro : ∀ x h, (Y.go x h).c → ∀ k ∈ ro, (Y.go x h).h k = h k
  vb : ∀ x h, (Y.go x h).c → ∃ b, (Y.go x h).v = .bool b
  ys : ∀ x h, (Y.go x h).c → ((h YS).blks = [] ∧ (h YS).fl = false) ∧ ((Y.go x h).v = .bool true → ((Y.go x h).h YS) = h YS)

omit [Gls] in
theorem Loc.go {Y : HSpec} {own ro : List Nat} (hL : Loc Y own ro) {x : List V} {h : Hp} (hc : (Y.go x h).c) {b : Bool} (hv : (Y.go x h).v = .bool b) (L : List (Nat × Site)) (hk : (L.map (·.1)).all (fun k => own.contains k) = true := by first | rfl | simp) :
    Y.go x (hps L h) = ⟨True, .bool b, hps L (Y.go x h).h⟩ := by
  obtain ⟨h1, h2, h3⟩ := hL.loc L (fun k hm => by have := List.all_eq_true.1 hk k hm; simpa [List.contains_eq_mem] using this) x h hc
  cases hy : Y.go x (hps L h) with
  | mk c v h' =>
    rw [hy] at h1 h2 h3
    simp only at h1 h2 h3
    rw [h2, hv, h3, eq_true h1]

/-- The rounds of a list, one by one, up to the first that says 'no more'. -/
def feed (Y : HSpec) : List (List V) → Hp → Prop × Hp
  | [], h => (True, h)
  | x :: r, h => match Y.go x h with
    | ⟨c, .bool true, h'⟩ => (c ∧ (feed Y r h').1, (feed Y r h').2)
    | ⟨c, .bool false, h'⟩ => (c, h')
    | ⟨_, _, h'⟩ => (False, h')
omit [Gls] in
theorem feed_cons (Y : HSpec) (x : List V) (r : List (List V)) (h : Hp) : feed Y (x :: r) h = match Y.go x h with
    | ⟨c, .bool true, h'⟩ => (c ∧ (feed Y r h').1, (feed Y r h').2)
    | ⟨c, .bool false, h'⟩ => (c, h')
    | ⟨_, _, h'⟩ => (False, h') := rfl
omit [Gls] in
theorem feed_step {Y : HSpec} {x : List V} {r : List (List V)} {h : Hp} (hf : (feed Y (x :: r) h).1) : (Y.go x h).c ∧ ∃ b, (Y.go x h).v = .bool b ∧
    (b = true → (feed Y r (Y.go x h).h).1 ∧ (feed Y (x :: r) h).2 = (feed Y r (Y.go x h).h).2) ∧ (b = false → (feed Y (x :: r) h).2 = (Y.go x h).h) := by
  rw [feed_cons] at hf ⊢
  cases hy : Y.go x h with
  | mk c v h' =>
    rw [hy] at hf
    cases v with
    | bool b =>
      cases b with
      | true => exact ⟨hf.1, true, rfl, fun _ => ⟨hf.2, rfl⟩, fun e => by cases e⟩
      | false => exact ⟨hf, false, rfl, (fun e => by cases e), fun _ => rfl⟩
    | _ => exact hf.elim

/-- An iterator's contract: what it yields. own: the sites of what it makes itself; ro: those that it reads. -/
def itS (own ro : List Nat) (dec : List V → Hp → Prop × List (List V)) (l : Nat) (Y : HSpec) : HSpec where
  go args h := match args with
    | .yld l' :: caps => ⟨l' = l ∧ Loc Y own ro ∧ (∀ k ∈ own, h k = { base := (h k).base, blks := [] }) ∧ (dec caps h).1 ∧ (feed Y (dec caps h).2 h).1, .tup [], hps (own.map fun k => (k, { base := (h k).base + 1000000, blks := [] })) (feed Y (dec caps h).2 h).2⟩
    | _ => ⟨False, .top, h⟩

theorem its_inv {own ro : List Nat} {dec : List V → Hp → Prop × List (List V)} {l : Nat} {Y : HSpec} {args : List V} {h : Hp} (hc : ((itS own ro dec l Y).go args h).c) : ∃ caps, args = .yld l :: caps ∧ Loc Y own ro ∧ (∀ k ∈ own, h k = { base := (h k).base, blks := [] }) ∧ (dec caps h).1 ∧ (feed Y (dec caps h).2 h).1 ∧
    ((itS own ro dec l Y).go args h).v = .tup [] ∧ ((itS own ro dec l Y).go args h).h = hps (own.map fun k => (k, { base := (h k).base + 1000000, blks := [] })) (feed Y (dec caps h).2 h).2 := by
  match args, hc with
  | .yld l' :: caps, hc =>
    obtain ⟨rfl, h2, h3, h4, h5⟩ := hc
    exact ⟨caps, rfl, h2, h3, h4, h5, rfl, rfl⟩

section
variable {σ : Type} (LC : σ → List (Nat × Site)) (keys : List Nat) (pre : σ → List V → Prop) (go : σ → List V → Bool) (nxt : σ → List V → σ)
/-- The heap holds, at the caller's sites, what s says. -/
def Mt (s : σ) (h : Hp) : Prop := ∀ k ∈ keys, h k = hps (LC s) noH k
open Classical in
/-- A loop's rounds: over the caller's own state. -/
noncomputable def mkY : HSpec where
  go args h := if hs : ∃ s, Mt LC keys s h then ⟨((h YS).blks = [] ∧ (h YS).fl = false) ∧ pre hs.choose args, .bool (go hs.choose args), hfl (hps (LC (nxt hs.choose args)) h) (!go hs.choose args)⟩ else ⟨False, .top, h⟩
def runS : σ → List (List V) → Prop × Bool × σ
  | s, [] => (True, true, s)
  | s, x :: r => match go s x with
    | true => (pre s x ∧ (runS (nxt s x) r).1, (runS (nxt s x) r).2)
    | false => (pre s x, false, nxt s x)
variable {LC keys pre go nxt}
variable (inj : ∀ s s', (∀ k ∈ keys, hps (LC s) noH k = hps (LC s') noH k) → s = s')
include inj
omit [Gls] in
theorem mkY_go {s : σ} {h : Hp} (hm : Mt LC keys s h) (x : List V) : (mkY LC keys pre go nxt).go x h = ⟨((h YS).blks = [] ∧ (h YS).fl = false) ∧ pre s x, .bool (go s x), hfl (hps (LC (nxt s x)) h) (!go s x)⟩ := by
  have hs : ∃ s, Mt LC keys s h := ⟨s, hm⟩
  have e : hs.choose = s := inj _ _ fun k hk => (hs.choose_spec k hk).symm.trans (hm k hk)
  simp only [mkY, dif_pos hs, e]
omit [Gls] in
theorem mkY_c {x : List V} {h : Hp} (hc : ((mkY LC keys pre go nxt).go x h).c) : ∃ s, Mt LC keys s h ∧ ((h YS).blks = [] ∧ (h YS).fl = false) ∧ pre s x := by
  by_cases hs : ∃ s, Mt LC keys s h
  · obtain ⟨s, hm⟩ := hs
    rw [mkY_go inj hm] at hc
    exact ⟨s, hm, hc⟩
  · simp only [mkY, dif_neg hs] at hc
omit [Gls] in
theorem mkY_loc (hkeys : ∀ s, (LC s).map (·.1) = keys) {own ro : List Nat} (hd : keys.all (fun k => !own.contains k && !ro.contains k && !(k == YS)) = true) (ho : own.contains YS = false) (hr : ro.contains YS = false) : Loc (mkY LC keys pre go nxt) own ro := by
  have hd' : ∀ k ∈ keys, k ∉ own ∧ k ∉ ro ∧ k ≠ YS := fun k hk => by
    have := List.all_eq_true.1 hd k hk
    simp only [Bool.and_eq_true, Bool.not_eq_true', List.contains_eq_mem, decide_eq_false_iff_not, beq_eq_false_iff_ne] at this
    exact ⟨this.1.1, this.1.2, this.2⟩
  have hoy : YS ∉ own := by simpa [List.contains_eq_mem] using ho
  have hry : YS ∉ ro := by simpa [List.contains_eq_mem] using hr
  have hLy : ∀ s, YS ∉ (LC s).map (·.1) := fun s hm => by rw [hkeys] at hm; exact (hd' _ hm).2.2 rfl
  refine ⟨fun L hL x h hc => ?_, fun x h hc k hk => ?_, fun x h hc => ?_, fun x h hc => ?_⟩
  · obtain ⟨s, hm, hy, hp⟩ := mkY_c inj hc
    have hLn : ∀ k ∈ keys, k ∉ L.map (·.1) := fun k hk hm => (hd' k hk).1 (hL k hm)
    have hm' : Mt LC keys s (hps L h) := fun k hk => by rw [hps_not (hLn k hk)]; exact hm k hk
    have hyL : hps L h YS = h YS := hps_not fun hm => hoy (hL _ hm)
    rw [mkY_go inj hm, mkY_go inj hm']
    refine ⟨by rw [hyL]; exact ⟨hy, hp⟩, rfl, ?_⟩
    funext k
    dsimp only
    by_cases hk : k = YS
    · rw [hk]
      have hyn : YS ∉ L.map (·.1) := fun hm => hoy (hL _ hm)
      rw [hps_not hyn, hfl_ys, hfl_ys]
      simp only [hnext, hps_not (hLy _), hyL]
    · rw [hfl_ne _ _ hk]
      by_cases hkL : k ∈ L.map (·.1)
      · have : k ∉ (LC (nxt s x)).map (·.1) := by rw [hkeys]; exact fun hm => hLn k hm hkL
        rw [hps_not this]
        exact hps_mem hkL
      · rw [hps_not hkL, hfl_ne _ _ hk]
        by_cases hkC : k ∈ (LC (nxt s x)).map (·.1)
        · exact hps_mem hkC
        · rw [hps_not hkC, hps_not hkC, hps_not hkL]
  · obtain ⟨s, hm, hy, hp⟩ := mkY_c inj hc
    rw [mkY_go inj hm]
    have hky : k ≠ YS := fun e => hry (by rw [← e]; exact hk)
    dsimp only
    rw [hfl_ne _ _ hky, hps_not (by rw [hkeys]; exact fun hm => (hd' k hm).2.1 hk)]
  · obtain ⟨s, hm, hy, hp⟩ := mkY_c inj hc
    rw [mkY_go inj hm]
    exact ⟨_, rfl⟩
  · obtain ⟨s, hm, hy, hp⟩ := mkY_c inj hc
    refine ⟨hy, ?_⟩
    rw [mkY_go inj hm]
    intro hv
    simp only [V.bool.injEq] at hv
    simp only [hv, Bool.not_true]
    rw [hfl_self (by rw [hps_not (hLy _)]; exact hy.1) (by rw [hps_not (hLy _)]; exact hy.2), hps_not (hLy _)]
omit [Gls] in
theorem runS_feed (hkeys : ∀ s, (LC s).map (·.1) = keys) (hky : YS ∉ keys) : ∀ (xs : List (List V)) (s : σ) (h : Hp), Mt LC keys s h → (h YS).blks = [] → (h YS).fl = false → (runS pre go nxt s xs).1 →
    (feed (mkY LC keys pre go nxt) xs h).1 ∧ (feed (mkY LC keys pre go nxt) xs h).2 = hfl (hps (LC (runS pre go nxt s xs).2.2) h) (!(runS pre go nxt s xs).2.1)
  | [], s, h, hm, h1, h2, _ => by
    refine ⟨trivial, ?_⟩
    simp only [feed, runS, Bool.not_true]
    rw [hps_self (fun k hk => hm k (by rw [← hkeys s]; exact hk)), hfl_self h1 h2]
  | x :: r, s, h, hm, h1, h2, hr => by
    have hLy : ∀ s, YS ∉ (LC s).map (·.1) := fun s => by rw [hkeys]; exact hky
    rw [feed_cons, mkY_go inj hm]
    cases hg : go s x with
    | false =>
      simp only [runS, hg] at hr ⊢
      exact ⟨⟨⟨h1, h2⟩, hr⟩, by simp⟩
    | true =>
      simp only [runS, hg] at hr ⊢
      simp only [Bool.not_true]
      have e1 : hps (LC (nxt s x)) h YS = h YS := hps_not (hLy _)
      rw [hfl_self (by rw [e1]; exact h1) (by rw [e1]; exact h2)]
      have hm' : Mt LC keys (nxt s x) (hps (LC (nxt s x)) h) := fun k hk => hps_mem (by rw [hkeys]; exact hk)
      obtain ⟨g1, g2⟩ := runS_feed hkeys hky r (nxt s x) (hps (LC (nxt s x)) h) hm' (by rw [e1]; exact h1) (by rw [e1]; exact h2) hr.2
      refine ⟨⟨⟨⟨h1, h2⟩, hr.1⟩, g1⟩, ?_⟩
      rw [g2]
      congr 1
      funext k
      by_cases hk : k ∈ keys
      · exact hps_mem (by rw [hkeys]; exact hk)
      · rw [hps_not (by rw [hkeys]; exact hk), hps_not (by rw [hkeys]; exact hk), hps_not (by rw [hkeys]; exact hk)]
/-- **The rule for loops over functions.** -/
theorem awp_range (hkeys : ∀ s, (LC s).map (·.1) = keys) {E : Env} {ok : Alts} {g : Operand} {ps : Array Tmp} {assign body : Code} {t : Nat → Bool × V} {h : Hp} {Q : Ex → St → Prop}
    (s0 : σ) (e0 : Ex) {own ro : List Nat} {dec : List V → Hp → Prop × List (List V)} {it : Nat} {caps : List V} (xs : List (List V))
    (h1 : ev { t := t, h := h } g = (true, .fn it caps)) (h2 : E.fn it = some (.iter (itS own ro dec))) (hps' : (ps.toList.all fun p => decide (p < E.nt)) = true)
    (hd : keys.all (fun k => !own.contains k && !ro.contains k && !(k == YS)) = true) (ho : own.contains YS = false) (hr : ro.contains YS = false)
    (hys : (h YS).blks = [] ∧ (h YS).fl = false) (hm : Mt LC keys s0 h) (hfr : ∀ k ∈ own, h k = { base := (h k).base, blks := [] }) (hdec : (dec caps h).1 ∧ (dec caps h).2 = xs)
    (hrun : (runS pre go nxt s0 xs).1)
    (hround : ∀ s x hb, pre s x → (hb YS).blks = [] → (hb YS).fl = false → x.length = ps.size ∧ awp E ok assign { t := setT t ps.toList x, h := hps (LC s) hb } fun e st1 => match e with
        | .normal => awp E ok body st1 fun e st2 => match e with
          | .normal => go s x = true ∧ HLe st2.h (hps (LC (nxt s x)) hb)
          | .ret => e0 = .ret ∧ go s x = false ∧ HLe st2.h (hps (LC (nxt s x)) hb)
          | .exit id => e0 = .exit id ∧ go s x = false ∧ HLe st2.h (hps (LC (nxt s x)) hb)
        | _ => False)
    (hQ1 : (runS pre go nxt s0 xs).2.1 = true → Q .normal { t := t, h := hps (own.map fun k => (k, { base := (h k).base + 1000000, blks := [] })) (hps (LC (runS pre go nxt s0 xs).2.2) h) })
    (hQ2 : (runS pre go nxt s0 xs).2.1 = false → e0 ≠ .normal ∧ Q e0 { t := t, h := hps (own.map fun k => (k, { base := (h k).base + 1000000, blks := [] })) (hps (LC (runS pre go nxt s0 xs).2.2) h) })
    (hyl : E.yl = none := by rfl) : awp E ok (.rangeFunc g ps assign body) { t := t, h := h } Q := by
  have hd' : ∀ k ∈ keys, k ∉ own ∧ k ∉ ro ∧ k ≠ YS := fun k hk => by
    have := List.all_eq_true.1 hd k hk
    simp only [Bool.and_eq_true, Bool.not_eq_true', List.contains_eq_mem, decide_eq_false_iff_not, beq_eq_false_iff_ne] at this
    exact ⟨this.1.1, this.1.2, this.2⟩
  have hky : YS ∉ keys := fun hm => (hd' _ hm).2.2 rfl
  have hoy : YS ∉ own := by simpa [List.contains_eq_mem] using ho
  have hLy : ∀ s, YS ∉ (LC s).map (·.1) := fun s => by rw [hkeys]; exact hky
  have hflm : ∀ (a b : Hp) (x : Bool), HLe a b → HLe (hfl a x) (hfl b x) := by
    intro a b x hab
    refine ⟨⟨fun s i B hg => ?_, fun s => ?_⟩, ?_⟩
    · rw [hget_hfl] at hg ⊢
      split at hg
      · cases hg
      · rename_i hne; rw [if_neg hne]; exact hab.1.1 s i B hg
    · rw [hnext_hfl, hnext_hfl]; exact hab.1.2 s
    · simp only [hfl, if_true]
      simp only [hnext, hab.2]
  simp only [awp]
  refine ⟨hyl, it, caps, itS own ro dec, mkY LC keys pre go nxt, e0, ⟨⟨h1, h2⟩, hps'⟩, fun x hb hc => ?_, fun l => ?_⟩
  · obtain ⟨s, hm, hy, hp⟩ := mkY_c inj hc
    obtain ⟨r1, r2⟩ := hround s x hb hp hy.1 hy.2
    refine ⟨hy, r1, ?_⟩
    have he : hps (LC s) hb = hb := hps_self fun k hk => hm k (by rw [← hkeys s]; exact hk)
    rw [he] at r2
    rw [mkY_go inj hm]
    refine awp_mono assign _ _ _ (fun e st1 hh => ?_) r2
    cases e with
    | normal =>
      refine awp_mono body _ _ _ (fun e st2 hh => ?_) hh
      cases e with
      | normal => exact ⟨by rw [hh.1], by rw [hh.1]; exact hflm _ _ _ hh.2⟩
      | ret => exact ⟨hh.1, by rw [hh.2.1], by rw [hh.2.1]; exact hflm _ _ _ hh.2.2⟩
      | exit id => exact ⟨hh.1, by rw [hh.2.1], by rw [hh.2.1]; exact hflm _ _ _ hh.2.2⟩
    | _ => exact hh.elim
  · rw [hfl_self hys.1 hys.2]
    obtain ⟨f1, f2⟩ := runS_feed inj hkeys hky xs s0 h hm hys.1 hys.2 hrun
    have hloc := mkY_loc (pre := pre) (go := go) (nxt := nxt) inj hkeys hd ho hr
    have hgo : (itS own ro dec l (mkY LC keys pre go nxt)).go (.yld l :: caps) h = ⟨l = l ∧ Loc (mkY LC keys pre go nxt) own ro ∧ (∀ k ∈ own, h k = { base := (h k).base, blks := [] }) ∧ (dec caps h).1 ∧ (feed (mkY LC keys pre go nxt) (dec caps h).2 h).1, .tup [], hps (own.map fun k => (k, { base := (h k).base + 1000000, blks := [] })) (feed (mkY LC keys pre go nxt) (dec caps h).2 h).2⟩ := rfl
    rw [hgo, hdec.2]
    refine ⟨⟨rfl, hloc, hfr, hdec.1, f1⟩, ?_⟩
    simp only [f2]
    have hoL : YS ∉ (own.map fun k => (k, ({ base := (h k).base + 1000000, blks := [] } : Site))).map (·.1) := by
      rw [List.map_map]
      intro hm
      obtain ⟨a, ha, e⟩ := List.mem_map.1 hm
      exact hoy (e ▸ ha)
    have hflg : ∀ b, (hps (own.map fun k => (k, ({ base := (h k).base + 1000000, blks := [] } : Site))) (hfl (hps (LC (runS pre go nxt s0 xs).2.2) h) b) YS).fl = b := fun b => by
      rw [hps_not hoL]; simp [hfl]
    have hfin : ∀ b, hfl (hps (own.map fun k => (k, ({ base := (h k).base + 1000000, blks := [] } : Site))) (hfl (hps (LC (runS pre go nxt s0 xs).2.2) h) b)) false = hps (own.map fun k => (k, ({ base := (h k).base + 1000000, blks := [] } : Site))) (hps (LC (runS pre go nxt s0 xs).2.2) h) := by
      intro b
      funext k
      by_cases hk : k = YS
      · rw [hk]
        have e1 : hps (LC (runS pre go nxt s0 xs).2.2) h YS = h YS := hps_not (hLy _)
        rw [hps_not hoL, e1, hfl_ys]
        simp only [hnext, hps_not hoL, hfl_ys, e1]
        cases hh : h YS with
        | mk base blks fl => rw [hh] at hys; obtain ⟨a, b⟩ := hys; simp only at a b; subst a b; simp
      · rw [hfl_ne _ _ hk]
        by_cases hkL : k ∈ (own.map fun k => (k, ({ base := (h k).base + 1000000, blks := [] } : Site))).map (·.1)
        · exact hps_mem hkL
        · rw [hps_not hkL, hps_not hkL, hfl_ne _ _ hk]
    rw [hflg, hfin]
    refine ⟨fun hb => hQ1 (by simpa using hb), fun hb => hQ2 (by simpa using hb)⟩
end
end Go.Sx
end
section
/- Contracts whose values are read by their encoding. No conditions. -/
namespace Go.Sx
open Classical in
/-- Out of the values what they stand for. -/
noncomputable def decC {D : Type} [Inhabited D] (enc : D → List V) (l : List V) : D := if x : ∃ d, l = enc d then x.choose else default
theorem decC_eq {D : Type} [Inhabited D] {enc : D → List V} (inj : ∀ a b, enc a = enc b → a = b) (d : D) : decC enc (enc d) = d := by
  have x : ∃ d', enc d = enc d' := ⟨d, rfl⟩
  simp only [decC, dif_pos x]
  exact (inj _ _ x.choose_spec).symm
theorem decC_of {D : Type} [Inhabited D] {enc : D → List V} (inj : ∀ a b, enc a = enc b → a = b) (d : D) {l : List V} (h : l = enc d) : decC enc l = d := by rw [h, decC_eq inj]
noncomputable abbrev mkP {D : Type} [Inhabited D] (enc : D → List V) (pre : D → Prop) (res : D → V) : PSpec := { dom := D, enc := enc, dec := decC enc, pre := pre, res := res }
noncomputable def mkH {D : Type} (enc : D → List V) (HP : D → Hp → Prop) (pre : D → Prop) (res : D → V) (post : D → Hp → Hp) : HSpec :=
  { go := fun args h => open Classical in if hx : ∃ d, args = enc d ∧ HP d h then ⟨pre hx.choose, res hx.choose, post hx.choose h⟩ else bad h }
theorem mkH_at {D : Type} {enc : D → List V} {HP : D → Hp → Prop} {pre : D → Prop} {res : D → V} {post : D → Hp → Hp} (inj : ∀ d d' h, enc d = enc d' → HP d h → HP d' h → d = d') {d : D} {h : Hp} (hd : HP d h) :
    (mkH enc HP pre res post).go (enc d) h = ⟨pre d, res d, post d h⟩ := by
  have hx : ∃ d', enc d = enc d' ∧ HP d' h := ⟨d, rfl, hd⟩
  have e : hx.choose = d := (inj _ _ _ hx.choose_spec.1 hd hx.choose_spec.2).symm
  simp only [mkH]
  rw [dif_pos hx, e]
theorem mkH_inv {D : Type} {enc : D → List V} {HP : D → Hp → Prop} {pre : D → Prop} {res : D → V} {post : D → Hp → Hp} {args : List V} {h : Hp} (hc : ((mkH enc HP pre res post).go args h).c) :
    ∃ d, args = enc d ∧ HP d h ∧ pre d ∧ (mkH enc HP pre res post).go args h = ⟨pre d, res d, post d h⟩ := by
  simp only [mkH] at hc ⊢
  by_cases hx : ∃ d, args = enc d ∧ HP d h
  · rw [dif_pos hx] at hc
    exact ⟨hx.choose, hx.choose_spec.1, hx.choose_spec.2, hc, by rw [dif_pos hx]⟩
  · rw [dif_neg hx] at hc; exact hc.elim
end Go.Sx
end
section
/- Crew, plain: ticks that are counted; duties; what is worked in a window. No conditions. -/
set_option linter.unusedSimpArgs false
set_option linter.unusedSectionVars false
namespace Go.Sx

/-- How many of n ticks from x on are so. -/
def cnt (P : Int → Bool) (x : Int) : Nat → Int
  | 0 => 0
  | n + 1 => cnt P x n + if P (x + n) = true then 1 else 0
theorem cnt_split (P : Int → Bool) (x : Int) (m : Nat) : ∀ n : Nat, cnt P x (m + n) = cnt P x m + cnt P (x + m) n
  | 0 => by simp [cnt]
  | n + 1 => by
    have ih := cnt_split P x m n
    rw [show m + (n + 1) = (m + n) + 1 from rfl, cnt, cnt, ih, show x + ((m + n : Nat) : Int) = x + m + n by omega]
    omega
theorem cnt_congr {P Q : Int → Bool} {x : Int} : ∀ n : Nat, (∀ t, x ≤ t → t < x + n → P t = Q t) → cnt P x n = cnt Q x n
  | 0, _ => rfl
  | n + 1, h => by
    rw [cnt, cnt, cnt_congr n fun t h1 h2 => h t h1 (by omega), h (x + n) (by omega) (by omega)]
theorem cnt_add {P Q R : Int → Bool} {x : Int} : ∀ n : Nat, (∀ t, x ≤ t → t < x + n → (if P t = true then (1 : Int) else 0) = (if Q t = true then 1 else 0) + (if R t = true then 1 else 0)) → cnt P x n = cnt Q x n + cnt R x n
  | 0, _ => rfl
  | n + 1, h => by
    have h1 := cnt_add n fun t h1 h2 => h t h1 (by omega)
    have h2 := h (x + n) (by omega) (by omega)
    rw [cnt, cnt, cnt, h1, h2]; omega
theorem cnt_mono {P Q : Int → Bool} {x : Int} : ∀ n : Nat, (∀ t, x ≤ t → t < x + n → P t = true → Q t = true) → cnt P x n ≤ cnt Q x n
  | 0, _ => Int.le_refl _
  | n + 1, h => by
    have h1 := cnt_mono n fun t h1 h2 => h t h1 (by omega)
    have h2 := h (x + n) (by omega) (by omega)
    rw [cnt, cnt]
    by_cases hp : P (x + n) = true
    · rw [if_pos hp, if_pos (h2 hp)]; omega
    · rw [if_neg hp]; split <;> omega
theorem cnt_le (P : Int → Bool) (x : Int) : ∀ n : Nat, 0 ≤ cnt P x n ∧ cnt P x n ≤ n
  | 0 => by simp [cnt]
  | n + 1 => by have := cnt_le P x n; rw [cnt]; split <;> omega
theorem cnt_all {P : Int → Bool} {x : Int} : ∀ n : Nat, (∀ t, x ≤ t → t < x + n → P t = true) → cnt P x n = n
  | 0, _ => rfl
  | n + 1, h => by rw [cnt, cnt_all n fun t h1 h2 => h t h1 (by omega), if_pos (h (x + n) (by omega) (by omega))]; omega
theorem cnt_none {P : Int → Bool} {x : Int} : ∀ n : Nat, (∀ t, x ≤ t → t < x + n → P t = false) → cnt P x n = 0
  | 0, _ => rfl
  | n + 1, h => by rw [cnt, cnt_none n fun t h1 h2 => h t h1 (by omega), h (x + n) (by omega) (by omega)]; rfl

/-- How many ticks from x on, before y, are so. -/
def cn (P : Int → Bool) (x y : Int) : Int := cnt P x (y - x).toNat
theorem cn_split {P : Int → Bool} {x y z : Int} (h1 : x ≤ y) (h2 : y ≤ z) : cn P x z = cn P x y + cn P y z := by
  unfold cn
  rw [show (z - x).toNat = (y - x).toNat + (z - y).toNat by omega, cnt_split, show x + ((y - x).toNat : Int) = y by omega]
theorem cn_congr {P Q : Int → Bool} {x y : Int} (h : ∀ t, x ≤ t → t < y → P t = Q t) : cn P x y = cn Q x y := cnt_congr _ fun t h1 h2 => h t h1 (by omega)
theorem cn_add {P Q R : Int → Bool} {x y : Int} (h : ∀ t, x ≤ t → t < y → (if P t = true then (1 : Int) else 0) = (if Q t = true then 1 else 0) + (if R t = true then 1 else 0)) : cn P x y = cn Q x y + cn R x y := cnt_add _ fun t h1 h2 => h t h1 (by omega)
theorem cn_mono {P Q : Int → Bool} {x y : Int} (h : ∀ t, x ≤ t → t < y → P t = true → Q t = true) : cn P x y ≤ cn Q x y := cnt_mono _ fun t h1 h2 => h t h1 (by omega)
theorem cn_nonneg (P : Int → Bool) (x y : Int) : 0 ≤ cn P x y := (cnt_le P x _).1
theorem cn_all {P : Int → Bool} {x y : Int} (hxy : x ≤ y) (h : ∀ t, x ≤ t → t < y → P t = true) : cn P x y = y - x := by
  unfold cn; rw [cnt_all _ fun t h1 h2 => h t h1 (by omega)]; omega
theorem cn_none {P : Int → Bool} {x y : Int} (h : ∀ t, x ≤ t → t < y → P t = false) : cn P x y = 0 := cnt_none _ fun t h1 h2 => h t h1 (by omega)
theorem cn_empty {P : Int → Bool} {x y : Int} (h : y ≤ x) : cn P x y = 0 := cn_none fun t h1 h2 => by omega
theorem cn_one (P : Int → Bool) (x : Int) : cn P x (x + 1) = if P x = true then 1 else 0 := by
  unfold cn
  rw [show (x + 1 - x).toNat = 1 by omega]
  simp [cnt]
theorem cn_le {P : Int → Bool} {x y : Int} (h : x ≤ y) : cn P x y ≤ y - x := by
  have := (cnt_le P x (y - x).toNat).2; unfold cn; omega

/-- A duty. -/
structure Du where
  p : Int
  a : Int
  b : Int
  deriving DecidableEq, Inhabited
def Du.on (d : Du) (t : Int) : Bool := decide (d.a ≤ t) && decide (t < d.b)
/-- Whether a tick is in some duty. -/
def onD (l : List Du) (t : Int) : Bool := l.any fun d => d.on t
theorem onD_cons (d : Du) (l : List Du) (t : Int) : onD (d :: l) t = (d.on t || onD l t) := rfl
theorem onD_iff {l : List Du} {t : Int} : onD l t = true ↔ ∃ d ∈ l, d.a ≤ t ∧ t < d.b := by
  simp [onD, Du.on, List.any_eq_true]
theorem onD_perm {l l' : List Du} (h : l.Perm l') (t : Int) : onD l t = onD l' t := by
  unfold onD; exact h.any_eq
theorem onD_app (l l' : List Du) (t : Int) : onD (l ++ l') t = (onD l t || onD l' t) := by simp [onD]
/-- What the sweep over duties counts. -/
def swp (to : Int) : List Du → Int → Int → Int
  | [], _, n => n
  | d :: r, done, n => if max d.a done < min d.b to then swp to r (min d.b to) (n + (min d.b to - max d.a done)) else swp to r done n
theorem swp_eq (to : Int) : ∀ (l : List Du) (done n : Int), done ≤ to → l.Pairwise (fun x y => x.a ≤ y.a) → swp to l done n = n + cn (onD l) done to
  | [], done, n, _, _ => by
    rw [swp, cn_none (P := onD []) fun t _ _ => rfl]; omega
  | d :: r, done, n, h, hp => by
    rw [swp]
    have hr := List.pairwise_cons.1 hp
    split
    · rename_i h1
      rw [swp_eq to r _ _ (by omega) hr.2]
      have e1 : cn (onD (d :: r)) done to = cn (onD (d :: r)) done (max d.a done) + (cn (onD (d :: r)) (max d.a done) (min d.b to) + cn (onD (d :: r)) (min d.b to) to) := by
        rw [← cn_split (by omega) (by omega), ← cn_split (by omega) (by omega)]
      have e2 : cn (onD (d :: r)) done (max d.a done) = 0 := cn_none fun t t1 t2 => by
        cases ht : onD (d :: r) t
        · rfl
        · obtain ⟨x, hx, hx1, hx2⟩ := onD_iff.1 ht
          rcases List.mem_cons.1 hx with rfl | hx
          · omega
          · have := hr.1 x hx; omega
      have e3 : cn (onD (d :: r)) (max d.a done) (min d.b to) = min d.b to - max d.a done := cn_all (by omega) fun t t1 t2 => onD_iff.2 ⟨d, List.mem_cons_self, by omega, by omega⟩
      have e4 : cn (onD (d :: r)) (min d.b to) to = cn (onD r) (min d.b to) to := cn_congr fun t t1 t2 => by
        rw [onD_cons]
        have : d.on t = false := by simp [Du.on]; omega
        rw [this]; rfl
      omega
    · rename_i h1
      rw [swp_eq to r _ _ h hr.2]
      rw [cn_congr (P := onD (d :: r)) (Q := onD r) fun t t1 t2 => by
        rw [onD_cons]
        have : d.on t = false := by simp [Du.on]; omega
        rw [this]; rfl]

/-- In how many ticks of a window one is on a duty. -/
def wk (l : List Du) (x y : Int) : Int := cn (onD l) x y
theorem wk_perm {l l' : List Du} (h : l.Perm l') (x y : Int) : wk l x y = wk l' x y := cn_congr fun t _ _ => onD_perm h t
theorem wk_sorted {l l' : List Du} (h : l'.Perm l) (hs : l'.Pairwise (fun x y => x.a ≤ y.a)) {x y : Int} (hxy : x ≤ y) : swp y l' x 0 = wk l x y := by
  rw [swp_eq y l' x 0 hxy hs, Int.zero_add]; exact wk_perm h x y
theorem wk_mono {l l' : List Du} (h : ∀ d ∈ l, d ∈ l') (x y : Int) : wk l x y ≤ wk l' x y := cn_mono fun t _ _ ht => by
  obtain ⟨d, hd, h1⟩ := onD_iff.1 ht
  exact onD_iff.2 ⟨d, h d hd, h1⟩

/-! windows: the most is worked in one that begins with a duty -/
theorem wk_left {l : List Du} {x W : Int} (hW : 0 ≤ W) (h : onD l (x - 1) = true) : wk l x (x + W) ≤ wk l (x - 1) (x - 1 + W) := by
  unfold wk
  by_cases h0 : W = 0
  · subst h0; rw [cn_empty (by omega), cn_empty (by omega)]; omega
  have e1 : cn (onD l) (x - 1) (x + W) = cn (onD l) (x - 1) x + cn (onD l) x (x + W) := cn_split (by omega) (by omega)
  have e2 : cn (onD l) (x - 1) (x + W) = cn (onD l) (x - 1) (x - 1 + W) + cn (onD l) (x - 1 + W) (x + W) := cn_split (by omega) (by omega)
  have e3 : cn (onD l) (x - 1) x = 1 := by have := cn_one (onD l) (x - 1); rw [Int.sub_add_cancel] at this; rw [this, if_pos h]
  have e4 : cn (onD l) (x - 1 + W) (x + W) ≤ 1 := by have := cn_le (P := onD l) (x := x - 1 + W) (y := x + W) (by omega); omega
  omega
theorem wk_right {l : List Du} {x W : Int} (hW : 0 ≤ W) (h : onD l x = false) : wk l x (x + W) ≤ wk l (x + 1) (x + 1 + W) := by
  unfold wk
  by_cases h0 : W = 0
  · subst h0; rw [cn_empty (by omega), cn_empty (by omega)]; omega
  have e1 : cn (onD l) x (x + 1 + W) = cn (onD l) x (x + 1) + cn (onD l) (x + 1) (x + 1 + W) := cn_split (by omega) (by omega)
  have e2 : cn (onD l) x (x + 1 + W) = cn (onD l) x (x + W) + cn (onD l) (x + W) (x + 1 + W) := cn_split (by omega) (by omega)
  have e3 : cn (onD l) x (x + 1) = 0 := by rw [cn_one, h]; rfl
  have e4 := cn_nonneg (onD l) (x + W) (x + 1 + W)
  omega
/-- From a tick of a duty one comes to a duty's begin. -/
theorem begin_left {l : List Du} {W : Int} (hW : 0 ≤ W) : ∀ (n : Nat) (x lo : Int), (∀ d ∈ l, lo ≤ d.a) → x ≤ lo + n → onD l x = true → ∃ d ∈ l, wk l x (x + W) ≤ wk l d.a (d.a + W)
  | 0, x, lo, hlo, hx, h => by
    obtain ⟨d, hd, h1, h2⟩ := onD_iff.1 h
    have := hlo d hd
    exact ⟨d, hd, by rw [show x = d.a by omega]; exact Int.le_refl _⟩
  | n + 1, x, lo, hlo, hx, h => by
    by_cases h1 : onD l (x - 1) = true
    · obtain ⟨d, hd, h2⟩ := begin_left hW n (x - 1) lo hlo (by omega) h1
      exact ⟨d, hd, Int.le_trans (wk_left hW h1) h2⟩
    · obtain ⟨d, hd, h2, h3⟩ := onD_iff.1 h
      have : d.a = x := by
        by_cases h4 : d.a = x
        · exact h4
        · exact absurd (onD_iff.2 ⟨d, hd, by omega, by omega⟩) h1
      exact ⟨d, hd, by rw [this]; exact Int.le_refl _⟩
theorem begin_right {l : List Du} {W : Int} (hW : 0 ≤ W) (hne : l ≠ []) : ∀ (n : Nat) (x hi : Int), (∀ d ∈ l, d.b ≤ hi) → hi ≤ x + n → wk l x (x + W) = 0 ∨ ∃ y, onD l y = true ∧ wk l x (x + W) ≤ wk l y (y + W)
  | 0, x, hi, hhi, hx => .inl (cn_none fun t t1 t2 => by
      cases ht : onD l t
      · rfl
      · obtain ⟨d, hd, h1, h2⟩ := onD_iff.1 ht
        have := hhi d hd; omega)
  | n + 1, x, hi, hhi, hx => by
    by_cases h : onD l x = true
    · exact .inr ⟨x, h, Int.le_refl _⟩
    · have h1 := wk_right hW (Bool.eq_false_iff.2 h)
      rcases begin_right hW hne n (x + 1) hi hhi (by omega) with h2 | ⟨y, hy, h2⟩
      · left; have := cn_nonneg (onD l) x (x + W); unfold wk at h1 h2 ⊢; omega
      · exact .inr ⟨y, hy, Int.le_trans h1 h2⟩
theorem bound_lo : ∀ l : List Du, ∃ lo : Int, ∀ d ∈ l, lo ≤ d.a
  | [] => ⟨0, fun _ h => by cases h⟩
  | d :: l => by
    obtain ⟨lo, h⟩ := bound_lo l
    refine ⟨min lo d.a, fun x hx => ?_⟩
    rcases List.mem_cons.1 hx with rfl | hx
    · omega
    · have := h x hx; omega
theorem bound_hi : ∀ l : List Du, ∃ hi : Int, ∀ d ∈ l, d.b ≤ hi
  | [] => ⟨0, fun _ h => by cases h⟩
  | d :: l => by
    obtain ⟨lo, h⟩ := bound_hi l
    refine ⟨max lo d.b, fun x hx => ?_⟩
    rcases List.mem_cons.1 hx with rfl | hx
    · omega
    · have := h x hx; omega
/-- In any window is worked no more than in one that begins with a duty. -/
theorem wk_most {l : List Du} {W T : Int} (hW : 0 ≤ W) (hT : 0 ≤ T) (h : ∀ d ∈ l, wk l d.a (d.a + W) ≤ T) (x : Int) : wk l x (x + W) ≤ T := by
  by_cases hne : l = []
  · subst hne
    have : wk [] x (x + W) = 0 := cn_none fun t _ _ => rfl
    omega
  obtain ⟨lo, hlo⟩ := bound_lo l
  obtain ⟨hi, hhi⟩ := bound_hi l
  rcases begin_right hW hne (hi - x).toNat x hi hhi (by omega) with h1 | ⟨y, hy, h1⟩
  · omega
  · obtain ⟨d, hd, h2⟩ := begin_left hW (y - lo).toNat y lo hlo (by omega) hy
    have := h d hd; omega
/-- Whether in no window is worked too much. -/
def totB (l : List Du) (W T : Int) : Bool := l.all fun d => decide (wk l d.a (d.a + W) ≤ T) && decide (wk l (d.b - W) d.b ≤ T)
theorem totB_iff {l : List Du} {W T : Int} (hW : 0 ≤ W) (hT : 0 ≤ T) : totB l W T = true ↔ ∀ x, wk l x (x + W) ≤ T := by
  constructor
  · intro h x
    refine wk_most hW hT (fun d hd => ?_) x
    have := List.all_eq_true.1 h d hd
    simp at this; exact this.1
  · intro h
    refine List.all_eq_true.2 fun d hd => ?_
    have h1 := h d.a
    have h2 := h (d.b - W)
    rw [Int.sub_add_cancel] at h2
    simp; exact ⟨h1, h2⟩

/-! the reference's sums -/
def bus1 (d : Du) (x y : Int) : Int := max 0 (min y d.b - max x d.a)
theorem bus1_eq (d : Du) (x y : Int) : bus1 d x y = cn d.on x y := by
  unfold bus1
  by_cases h : max x d.a < min y d.b
  · rw [cn_split (y := max x d.a) (by omega) (by omega), cn_split (x := max x d.a) (y := min y d.b) (by omega) (by omega)]
    rw [cn_none (x := x) (y := max x d.a) fun t t1 t2 => by simp [Du.on]; omega, cn_all (x := max x d.a) (y := min y d.b) (by omega) fun t t1 t2 => by simp [Du.on]; omega, cn_none (x := min y d.b) (y := y) fun t t1 t2 => by simp [Du.on]; omega]
    omega
  · rw [cn_none (x := x) (y := y) fun t t1 t2 => by simp [Du.on]; omega]; omega
/-- No two have a tick in common. -/
def Disj (l : List Du) : Prop := l.Pairwise fun x y => ∀ t, ¬ (x.on t = true ∧ y.on t = true)
/-- The reference's: on a duty, or on another one of their own. -/
def besd (d : Du) (x y : Int) : List Du → Int
  | [] => bus1 d x y
  | z :: l => besd d x y l + (bus1 z x y - bus1 z (max x d.a) (min y d.b))
theorem bus1_meet (z d : Du) (x y : Int) : bus1 z (max x d.a) (min y d.b) = cn (fun t => z.on t && d.on t) x y := by
  rw [bus1_eq]
  by_cases h : max x d.a ≤ min y d.b
  · rw [cn_split (P := fun t => z.on t && d.on t) (y := max x d.a) (by omega) (by omega), cn_split (P := fun t => z.on t && d.on t) (x := max x d.a) (y := min y d.b) (by omega) (by omega)]
    rw [cn_none (P := fun t => z.on t && d.on t) (x := x) (y := max x d.a) fun t t1 t2 => by simp [Du.on]; omega, cn_none (P := fun t => z.on t && d.on t) (x := min y d.b) (y := y) fun t t1 t2 => by simp [Du.on]; omega]
    rw [cn_congr (P := fun t => z.on t && d.on t) (Q := z.on) fun t t1 t2 => by
      have : d.on t = true := by simp [Du.on]; omega
      simp [this]]
    omega
  · rw [cn_empty (by omega)]
    exact (cn_none fun t t1 t2 => by simp [Du.on]; omega).symm
theorem besd_eq (d : Du) (x y : Int) : ∀ l : List Du, Disj l → besd d x y l = wk (d :: l) x y
  | [], _ => by
    rw [besd, bus1_eq]
    exact cn_congr fun t _ _ => by simp [onD]
  | z :: l, h => by
    have hz := List.pairwise_cons.1 h
    rw [besd, besd_eq d x y l hz.2, bus1_eq, bus1_meet]
    have e1 : cn z.on x y = cn (fun t => z.on t && d.on t) x y + cn (fun t => z.on t && !d.on t) x y := cn_add fun t _ _ => by
      cases z.on t <;> cases d.on t <;> simp
    have e2 : wk (d :: z :: l) x y = wk (d :: l) x y + cn (fun t => z.on t && !d.on t) x y := cn_add fun t _ _ => by
      rw [onD_cons, onD_cons, onD_cons]
      cases hz1 : z.on t
      · cases d.on t <;> simp
      · have : onD l t = false := by
          cases ho : onD l t
          · rfl
          · obtain ⟨w, hw, h1, h2⟩ := onD_iff.1 ho
            exact absurd ⟨hz1, by simp [Du.on, h1, h2]⟩ (hz.1 w hw t)
        cases d.on t <;> simp [this]
    omega
end Go.Sx
end
section
/- Plain: the first place in a list that is so. No conditions. -/
namespace Go.Sx
section
variable {α : Type}
def idxZ (l : List α) (p : α → Bool) : Int := match l.findIdx? p with | some i => i | none => -1
theorem idxZ_at (l : List α) (p : α → Bool) {k : Nat} (hk : k < l.length) (hp : p l[k] = true) (h : ∀ j (hj : j < l.length), j < k → p l[j] = false) : idxZ l p = k := by
  have : l.findIdx? p = some k := by
    rw [List.findIdx?_eq_some_iff_getElem]
    exact ⟨hk, hp, fun j hj => by simp [h j (by omega) hj]⟩
  simp [idxZ, this]
theorem idxZ_none (l : List α) (p : α → Bool) (h : ∀ j (hj : j < l.length), p l[j] = false) : idxZ l p = -1 := by
  have : l.findIdx? p = none := by
    rw [List.findIdx?_eq_none_iff]
    intro x hx
    obtain ⟨j, hj, rfl⟩ := List.getElem_of_mem hx
    exact h j hj
  simp [idxZ, this]
theorem idxZ_some {l : List α} {p : α → Bool} (h : idxZ l p ≠ -1) : ∃ (k : Nat) (hk : k < l.length), idxZ l p = k ∧ p l[k] = true ∧ ∀ j (hj : j < l.length), j < k → p l[j] = false := by
  unfold idxZ at h ⊢
  cases hf : l.findIdx? p with
  | none => rw [hf] at h; exact absurd rfl h
  | some i =>
    rw [List.findIdx?_eq_some_iff_getElem] at hf
    obtain ⟨h1, h2, h3⟩ := hf
    exact ⟨i, h1, rfl, h2, fun j hj hji => by simpa using h3 j hji⟩
theorem get_of {l : List α} {k : Nat} {x : α} (h : l[k]? = some x) (hk : k < l.length) : l[k] = x := by
  rw [List.getElem?_eq_getElem hk] at h; exact Option.some.inj h
theorem idxZ_any (l : List α) (p : α → Bool) : decide (0 ≤ idxZ l p) = l.any p := by
  unfold idxZ
  cases h : l.findIdx? p with
  | none => rw [List.findIdx?_eq_none_iff] at h; simp; exact fun x hx => by simpa using h x hx
  | some i =>
    have : l.any p = true := by
      rw [List.findIdx?_eq_some_iff_getElem] at h
      obtain ⟨h1, h2, _⟩ := h
      exact List.any_eq_true.2 ⟨_, List.getElem_mem h1, h2⟩
    simp [this]
end
end Go.Sx
end
section
/- Crew, plain: rosters, duties, the rules that a duty breaks; the reference's. No conditions. -/
set_option linter.unusedSimpArgs false
set_option linter.unusedSectionVars false
namespace Go.Sx

structure Pn where
  rat : Int
  rank : Int
  dive : Int
  deriving DecidableEq, Inhabited
def Pn.row (p : Pn) : List V := [.int .i64 p.rat, .int .i64 p.rank, .int .i64 p.dive]
theorem Pn.row_inj (a b : Pn) (h : a.row = b.row) : a = b := by
  cases a; cases b; simp [Pn.row] at h; simp [h]
def Du.row (p : Du) : List V := [.int .i64 p.p, .int .i64 p.a, .int .i64 p.b]
theorem Du.row_inj (a b : Du) (h : a.row = b.row) : a = b := by
  cases a; cases b; simp [Du.row] at h; simp [h]
structure Ro where
  ppl : List Pn
  lng : Int
  rst : Int
  win : Int
  tot : Int
  rcn : Int
  deriving DecidableEq, Inhabited
def pplV (l : List Pn) : V := .sl 3 (l.map Pn.row)
def dusV (l : List Du) : V := .sl 3 (l.map Du.row)
def Ro.row (r : Ro) : List V := [pplV r.ppl, .int .i64 r.lng, .int .i64 r.rst, .int .i64 r.win, .int .i64 r.tot, .int .i64 r.rcn]
theorem mapRow_inj {α : Type} {f : α → List V} (hf : ∀ a b, f a = f b → a = b) : ∀ {a b : List α}, a.map f = b.map f → a = b
  | [], [], _ => rfl
  | [], _ :: _, h => by simp at h
  | _ :: _, [], h => by simp at h
  | x :: a, y :: b, h => by
    simp only [List.map_cons, List.cons.injEq] at h
    rw [hf _ _ h.1, mapRow_inj hf h.2]
theorem Ro.row_inj (a b : Ro) (h : a.row = b.row) : a = b := by
  cases a; cases b
  simp only [Ro.row, pplV, List.cons.injEq, V.sl.injEq, V.int.injEq, true_and, and_true] at h
  obtain ⟨h1, h2, h3, h4, h5, h6⟩ := h
  rw [mapRow_inj Pn.row_inj h1, h2, h3, h4, h5, h6]
structure Cl where
  a : Int
  b : Int
  craft : Int
  water : Bool
  deriving DecidableEq, Inhabited
def Cl.row (c : Cl) : List V := [.int .i64 c.a, .int .i64 c.b, .int .i64 c.craft, .bool c.water]
theorem Cl.row_inj (a b : Cl) (h : a.row = b.row) : a = b := by
  cases a; cases b; simp [Cl.row] at h; simp [h]

def Pn.ok (p : Pn) : Bool := decide (0 ≤ p.rat ∧ p.rat ≤ 255) && decide (0 ≤ p.rank ∧ p.rank ≤ 3) && decide (0 ≤ p.dive ∧ p.dive ≤ 2000)
/-- Whether a roster is valid. -/
def Ro.ok (r : Ro) : Bool := decide (r.ppl.length ≤ 12) && r.ppl.all Pn.ok && decide (1 ≤ r.lng ∧ r.lng ≤ 2000) && decide (0 ≤ r.rst ∧ r.rst ≤ 2000) && decide (1 ≤ r.win ∧ r.win ≤ 2000) && decide (1 ≤ r.rcn ∧ r.rcn ≤ 2000) && decide (1 ≤ r.tot ∧ r.tot ≤ r.win)
structure Ro.Fit (r : Ro) : Prop where
  n : r.ppl.length ≤ 12
  p : ∀ p ∈ r.ppl, p.ok = true
  lng : 1 ≤ r.lng ∧ r.lng ≤ 2000
  rst : 0 ≤ r.rst ∧ r.rst ≤ 2000
  win : 1 ≤ r.win ∧ r.win ≤ 2000
  rcn : 1 ≤ r.rcn ∧ r.rcn ≤ 2000
  tot : 1 ≤ r.tot ∧ r.tot ≤ r.win
theorem Ro.ok_iff {r : Ro} : r.ok = true ↔ r.Fit := by
  constructor
  · intro h
    simp [Ro.ok] at h
    obtain ⟨⟨⟨⟨⟨⟨h1, h2⟩, h3⟩, h4⟩, h5⟩, h6⟩, h7⟩ := h
    exact ⟨h1, h2, h3, h4, h5, h6, h7⟩
  · rintro ⟨h1, h2, h3, h4, h5, h6, h7⟩
    simp [Ro.ok]
    exact ⟨⟨⟨⟨⟨⟨h1, h2⟩, h3⟩, h4⟩, h5⟩, h6⟩, h7⟩

/-- Ticks of a duty or a call. -/
def strB (a b : Int) : Bool := decide (0 ≤ a ∧ a ≤ b - 1) && decide (b ≤ 2000)
theorem strB_iff {a b : Int} : strB a b = true ↔ 0 ≤ a ∧ a < b ∧ b ≤ 2000 := by
  simp [strB]; omega
/-- Duties of valid ticks. -/
def Val (l : List Du) : Prop := ∀ d ∈ l, 0 ≤ d.a ∧ d.a < d.b ∧ d.b ≤ 2000
def own (l : List Du) (n : Int) : List Du := l.filter fun d => decide (d.p = n)
theorem own_val {l : List Du} (h : Val l) (n : Int) : Val (own l n) := fun d hd => h d (List.mem_filter.1 hd).1
theorem own_len (l : List Du) (n : Int) : (own l n).length ≤ l.length := List.length_filter_le ..
def restB (r : Ro) (x y : Du) : Bool := if y.a < x.a then decide (y.b + r.rst ≤ x.a) else decide (x.b + r.rst ≤ y.a)
def recB (r : Ro) (o : List Du) (x : Du) : Bool := decide (x.a ≤ r.rcn) || o.any fun d => decide (0 ≤ x.a - d.b ∧ x.a - d.b ≤ r.rcn)
/-- The rules that a duty breaks beside others of the same person. -/
def brk (r : Ro) (o : List Du) (x : Du) : List Int :=
  (if (o.all fun d => restB r d x) = true then [] else [3]) ++ (if r.lng < x.b - x.a then [4] else []) ++ (if totB (o ++ [x]) r.win r.tot = true then [] else [5]) ++ (if recB r o x = true then [] else [6])
theorem brk_nil {r : Ro} {o : List Du} {x : Du} : brk r o x = [] ↔ (∀ d ∈ o, restB r d x = true) ∧ x.b - x.a ≤ r.lng ∧ totB (o ++ [x]) r.win r.tot = true ∧ recB r o x = true := by
  unfold brk
  by_cases h1 : (o.all fun d => restB r d x) = true
  · have h1' := List.all_eq_true.1 h1
    by_cases h2 : r.lng < x.b - x.a
    · simp [h2]; intro _ h; omega
    · by_cases h3 : totB (o ++ [x]) r.win r.tot = true
      · by_cases h4 : recB r o x = true
        · simp [h1, h2, h3, h4]; exact ⟨h1', by omega⟩
        · simp [h1, h2, h3, h4]
      · simp [h1, h2, h3]
  · have : ¬ ∀ d ∈ o, restB r d x = true := fun h => h1 (List.all_eq_true.2 h)
    simp [h1, this]

/-! the reference's -/
def rrest (r : Ro) (l : List Du) (d : Du) : Bool := l.all fun x => !(decide (x.p = d.p) && decide (d.a < x.b + r.rst) && decide (x.a < d.b + r.rst))
/-- The reference's count, from the first on. -/
def bsd (d : Du) (x y : Int) : List Du → Int → Int
  | [], n => n
  | z :: l, n => bsd d x y l (if z.p = d.p then n + (bus1 z x y - bus1 z (max x d.a) (min y d.b)) else n)
def rwin (r : Ro) (l : List Du) (d : Du) : Bool := (l ++ [d]).all fun z => !decide (z.p = d.p) || (decide (bsd d z.a (z.a + r.win) l (bus1 d z.a (z.a + r.win)) ≤ r.tot) && decide (bsd d (max 0 (z.b - r.win)) (max 0 (z.b - r.win) + r.win) l (bus1 d (max 0 (z.b - r.win)) (max 0 (z.b - r.win) + r.win)) ≤ r.tot))
def rrec (r : Ro) (l : List Du) (d : Du) : Bool := decide (d.a ≤ r.rcn) || l.any fun x => decide (x.p = d.p) && decide (x.b ≤ d.a) && decide (d.a - r.rcn ≤ x.b)
def rbrk (r : Ro) (l : List Du) (d : Du) : List Int :=
  (if rrest r l d = true then [] else [3]) ++ (if r.lng < d.b - d.a then [4] else []) ++ (if rwin r l d = true then [] else [5]) ++ (if rrec r l d = true then [] else [6])
theorem bsd_own (d : Du) (x y : Int) : ∀ (l : List Du) (n : Int), bsd d x y l n = n + (besd d x y (own l d.p) - bus1 d x y)
  | [], n => by simp [bsd, own, besd]
  | z :: l, n => by
    rw [bsd, bsd_own d x y l]
    by_cases h : z.p = d.p
    · rw [if_pos h, show own (z :: l) d.p = z :: own l d.p by simp [own, h], besd]; omega
    · rw [if_neg h, show own (z :: l) d.p = own l d.p by simp [own, h]]
theorem bsd_eq {d : Du} {x y : Int} {l : List Du} (h : Disj (own l d.p)) : bsd d x y l (bus1 d x y) = wk (own l d.p ++ [d]) x y := by
  rw [bsd_own, besd_eq d x y _ h]
  have : wk (d :: own l d.p) x y = wk (own l d.p ++ [d]) x y := wk_perm (by simpa using (List.perm_append_comm (l₁ := [d]) (l₂ := own l d.p))) x y
  omega
theorem own_snoc (l : List Du) (d : Du) : own (l ++ [d]) d.p = own l d.p ++ [d] := by simp [own, List.filter_append]
theorem all_own (l : List Du) (n : Int) (p : Du → Bool) : (l.all fun z => !decide (z.p = n) || p z) = (own l n).all p := by
  induction l with
  | nil => rfl
  | cons z l ih =>
    by_cases h : z.p = n
    · rw [show own (z :: l) n = z :: own l n by simp [own, h]]; simp [h, ih]
    · rw [show own (z :: l) n = own l n by simp [own, h]]; simp [h, ih]
theorem rwin_eq {r : Ro} (hr : r.Fit) {l : List Du} {d : Du} (h : Disj (own l d.p)) (hv : Val (own l d.p)) (hd : 0 ≤ d.a ∧ d.a < d.b ∧ d.b ≤ 2000) : rwin r l d = totB (own l d.p ++ [d]) r.win r.tot := by
  unfold rwin
  rw [all_own, own_snoc]
  simp only [bsd_eq h]
  rw [Bool.eq_iff_iff]
  rw [totB_iff (by have := hr.win; omega) (by have := hr.tot; omega)]
  constructor
  · intro h1 x
    refine wk_most (by have := hr.win; omega) (by have := hr.tot; omega) (fun z hz => ?_) x
    have := List.all_eq_true.1 h1 z hz
    simp at this; exact this.1
  · intro h1
    refine List.all_eq_true.2 fun z hz => ?_
    simp; exact ⟨h1 _, h1 _⟩
theorem own_mem {l : List Du} {n : Int} {x : Du} : x ∈ own l n ↔ x ∈ l ∧ x.p = n := by simp [own]
theorem rrest_eq {r : Ro} (hr : r.Fit) {l : List Du} {d : Du} (hv : Val (own l d.p)) (hd : 0 ≤ d.a ∧ d.a < d.b ∧ d.b ≤ 2000) : rrest r l d = (own l d.p).all fun x => restB r x d := by
  have hrr := hr.rst
  unfold rrest
  rw [Bool.eq_iff_iff, List.all_eq_true, List.all_eq_true]
  constructor
  · intro h x hx
    have h1 := h x (own_mem.1 hx).1
    have h2 := (own_mem.1 hx).2
    have h3 := hv x hx
    simp [h2] at h1
    unfold restB
    split
    · simp; omega
    · simp
      omega
  · intro h x hx
    by_cases h2 : x.p = d.p
    · have hx' := own_mem.2 ⟨hx, h2⟩
      have h1 := h x hx'
      have h3 := hv x hx'
      unfold restB at h1
      simp [h2]
      split at h1
      · simp at h1; omega
      · simp at h1; omega
    · simp [h2]
theorem rrec_eq {r : Ro} {l : List Du} {d : Du} : rrec r l d = recB r (own l d.p) d := by
  unfold rrec recB
  congr 1
  rw [Bool.eq_iff_iff, List.any_eq_true, List.any_eq_true]
  constructor
  · rintro ⟨x, hx, h⟩
    simp at h
    exact ⟨x, own_mem.2 ⟨hx, h.1.1⟩, by simp; omega⟩
  · rintro ⟨x, hx, h⟩
    have := own_mem.1 hx
    simp at h
    exact ⟨x, this.1, by simp [this.2]; omega⟩
/-- The reference's rules are those of the duties of one person. -/
theorem rbrk_eq {r : Ro} (hr : r.Fit) {l : List Du} {d : Du} (h : Disj (own l d.p)) (hv : Val (own l d.p)) (hd : 0 ≤ d.a ∧ d.a < d.b ∧ d.b ≤ 2000) : rbrk r l d = brk r (own l d.p) d := by
  unfold rbrk brk
  rw [rrest_eq hr hv hd, rwin_eq hr h hv hd, rrec_eq]

/-! right duties -/
def duAt (l : List Du) (i : Nat) : Du := l.getD i default
def duOk (r : Ro) (l : List Du) (i : Nat) : Bool :=
  decide (0 ≤ (duAt l i).p ∧ (duAt l i).p ≤ r.ppl.length - 1) && strB (duAt l i).a (duAt l i).b && (decide (i = 0) || decide ((duAt l (i - 1)).a ≤ (duAt l i).a)) && (brk r (own (l.take i) (duAt l i).p) (duAt l i)).isEmpty
theorem duOk_iff {r : Ro} {l : List Du} {i : Nat} : duOk r l i = true ↔ (0 ≤ (duAt l i).p ∧ (duAt l i).p ≤ r.ppl.length - 1) ∧ (0 ≤ (duAt l i).a ∧ (duAt l i).a < (duAt l i).b ∧ (duAt l i).b ≤ 2000) ∧ (i = 0 ∨ (duAt l (i - 1)).a ≤ (duAt l i).a) ∧ brk r (own (l.take i) (duAt l i).p) (duAt l i) = [] := by
  unfold duOk
  simp only [Bool.and_eq_true, strB_iff, Bool.or_eq_true, decide_eq_true_eq, List.isEmpty_iff, and_assoc]
def Rt (r : Ro) (l : List Du) (n : Nat) : Prop := ∀ i, i < n → duOk r l i = true
theorem take_snoc {α : Type} [Inhabited α] (l : List α) {n : Nat} (h : n < l.length) : l.take (n + 1) = l.take n ++ [l.getD n default] := by
  rw [List.take_add_one]; simp [List.getD, h]
theorem Rt.val {r : Ro} {l : List Du} : ∀ {n : Nat}, n ≤ l.length → Rt r l n → Val (l.take n)
  | 0, _, _ => fun d hd => by simp at hd
  | n + 1, hn, h => by
    rw [take_snoc l (by omega)]
    intro d hd
    rcases List.mem_append.1 hd with hd | hd
    · exact Rt.val (by omega) (fun i hi => h i (by omega)) d hd
    · have := List.mem_singleton.1 hd
      subst this
      exact (duOk_iff.1 (h n (by omega))).2.1
theorem rest_disj {r : Ro} (hr : 0 ≤ r.rst) {x y : Du} (h : restB r x y = true) (t : Int) : ¬ (x.on t = true ∧ y.on t = true) := by
  rintro ⟨h1, h2⟩
  simp [Du.on] at h1 h2
  unfold restB at h
  split at h <;> simp at h <;> omega
theorem Rt.disj {r : Ro} (hr : 0 ≤ r.rst) {l : List Du} (p : Int) : ∀ {n : Nat}, n ≤ l.length → Rt r l n → Disj (own (l.take n) p)
  | 0, _, _ => by simp [own, Disj]
  | n + 1, hn, h => by
    have ih := Rt.disj hr p (n := n) (by omega) (fun i hi => h i (by omega))
    rw [take_snoc l (by omega)]
    have hk := duOk_iff.1 (h n (by omega))
    change Disj (own (l.take n ++ [duAt l n]) p)
    by_cases hp : (duAt l n).p = p
    · have e : own (l.take n ++ [duAt l n]) p = own (l.take n) p ++ [duAt l n] := by simp [own, List.filter_append, hp]
      rw [e]
      refine List.pairwise_append.2 ⟨ih, List.pairwise_singleton .., fun x hx y hy => ?_⟩
      have := List.mem_singleton.1 hy
      subst this
      rw [hp] at hk
      exact rest_disj hr ((brk_nil.1 hk.2.2.2).1 x hx)
    · have e : own (l.take n ++ [duAt l n]) p = own (l.take n) p := by simp [own, List.filter_append, hp]
      rw [e]; exact ih
def badDu (r : Ro) (l : List Du) : Int := idxZ (List.range l.length) fun i => !duOk r l i
def chkE (r : Ro) (l : List Du) : Int × Int := if r.ok = true then (if 60 < l.length then (0, 2) else if 0 ≤ badDu r l then (badDu r l, 101) else (0, 0)) else (0, 100)
theorem badDu_none {r : Ro} {l : List Du} (h : badDu r l < 0) : Rt r l l.length := by
  intro i hi
  have hz := idxZ_any (List.range l.length) fun j => !duOk r l j
  have e : decide (0 ≤ idxZ (List.range l.length) fun j => !duOk r l j) = false := by
    have : idxZ (List.range l.length) (fun j => !duOk r l j) = badDu r l := rfl
    rw [this]; simp; omega
  rw [e] at hz
  have := List.any_eq_false.1 hz.symm i (by simpa using hi)
  simpa using this
theorem badDu_of {r : Ro} {l : List Du} (h : Rt r l l.length) : badDu r l = -1 := idxZ_none _ _ fun j hj => by
  simp at hj ⊢; exact h j hj
theorem chkE_zero {r : Ro} {l : List Du} : (chkE r l).2 = 0 ↔ r.Fit ∧ l.length ≤ 60 ∧ Rt r l l.length := by
  unfold chkE
  by_cases h1 : r.ok = true
  · rw [if_pos h1]
    by_cases h2 : 60 < l.length
    · rw [if_pos h2]; simp; omega
    · rw [if_neg h2]
      by_cases h3 : 0 ≤ badDu r l
      · rw [if_pos h3]; simp
        intro _ _ h; rw [badDu_of h] at h3; omega
      · rw [if_neg h3]; simp
        exact ⟨Ro.ok_iff.1 h1, by omega, badDu_none (by omega)⟩
  · rw [if_neg h1]; simp
    intro h; exact absurd (Ro.ok_iff.2 h) h1

/-! why somebody may not fly -/
def bit1 (x k : Int) : Bool := x.toNat.testBit k.toNat
def pnAt (r : Ro) (n : Int) : Pn := r.ppl.getD n.toNat default
def whyL (r : Ro) (l : List Du) (n : Int) (c : Cl) : List Int :=
  (if bit1 (pnAt r n).rat c.craft = true then [] else [1]) ++ (if c.water = true ∧ (pnAt r n).dive < c.b then [2] else []) ++ brk r (own l n) ⟨n, c.a, c.b⟩
def callB (c : Cl) : Bool := strB c.a c.b && decide (0 ≤ c.craft ∧ c.craft ≤ 7)
def perB (r : Ro) (n : Int) : Bool := decide (0 ≤ n ∧ n ≤ r.ppl.length - 1)
/-- The errors of a roster, duties and what is right beside them. -/
def chk2 (r : Ro) (l : List Du) (b : Bool) : Int := if (chkE r l).2 = 0 then (if b = true then 0 else 1) else (chkE r l).2
def mayB (r : Ro) (l : List Du) (c : Cl) (i k : Nat) : Bool := decide (i ≠ k) && (decide (2 ≤ (pnAt r i).rank) && (whyL r l i c).isEmpty) && (decide (1 ≤ (pnAt r k).rank) && (whyL r l k c).isEmpty)
def crwL (r : Ro) (l : List Du) (c : Cl) : List (Int × Int) :=
  (List.range r.ppl.length).flatMap fun i : Nat => ((List.range r.ppl.length).filter fun k : Nat => mayB r l c i k).map fun k : Nat => ((i : Int), (k : Int))
/-- The end of the longest duty that begins at a tick: from above. -/
def untL (r : Ro) (o : List Du) (n a : Int) : Nat → Int
  | 0 => 0
  | k + 1 => if (brk r o ⟨n, a, a + (k + 1 : Nat)⟩).isEmpty = true then a + (k + 1 : Nat) else untL r o n a k
end Go.Sx
end
