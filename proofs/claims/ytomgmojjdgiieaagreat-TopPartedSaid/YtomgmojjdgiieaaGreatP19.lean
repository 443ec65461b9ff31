/- A part of a proof; no conditions. -/
import Derived.Test.YtomgmojjdgiieaaGreatP18
set_option linter.unusedSimpArgs false
set_option linter.unusedVariables false
set_option linter.unusedSectionVars false
section
/- The walk's own words: how an abstract state is spelled, and the rule for loops. No conditions. -/
namespace Go.Sx
open Go.RowKit
variable [Gls]
omit [Gls] in
theorem upd_upds (L : List (Nat × (Bool × V))) (T : Nat → Bool × V) (d : Nat) (x : Bool × V) : upd (upds L T) (some d) x = upds ((d, x) :: L) T := by
  funext k; simp only [upd, upds]
omit [Gls] in
theorem upd_none (t : Nat → Bool × V) (x : Bool × V) : upd t none x = t := rfl
omit [Gls] in
theorem hite_same (b : Bool) (h : Hp) : hite b h h = h := by cases b <;> rfl
omit [Gls] in
theorem hite_true (h h' : Hp) : hite true h h' = h := rfl
omit [Gls] in
theorem hite_false (h h' : Hp) : hite false h h' = h' := rfl
def forget (ws : List Nat) (T : Nat → Bool × V) (k : Nat) : Bool × V := if ws.contains k = true then (true, .top) else T k
def okv (x y : Bool × V) : Prop := x = y ∨ y = (true, .top) ∨ (x.1 = true ∧ y.1 = true ∧ sub x.2 y.2)
def okAll (t : Nat → Bool × V) : List (Nat × (Bool × V)) → Prop
  | [] => True
  | (d, y) :: r => okv (t d) y ∧ okAll t r
omit [Gls] in
theorem okAll_get {t : Nat → Bool × V} : ∀ {L : List (Nat × (Bool × V))} {T : Nat → Bool × V} {k : Nat}, okAll t L → (L.map (·.1)).contains k = true → okv (t k) (upds L T k)
  | [], _, _, _, hk => by simp at hk
  | (d, y) :: r, T, k, h, hk => by
    simp only [upds]
    by_cases hd : k = d
    · subst hd; rw [if_pos rfl]; exact h.1
    · rw [if_neg hd]
      exact okAll_get h.2 (by simpa [hd] using hk)
omit [Gls] in
theorem upds_miss : ∀ {L : List (Nat × (Bool × V))} {T : Nat → Bool × V} {k : Nat}, (L.map (·.1)).contains k = false → upds L T k = T k
  | [], _, _, _ => rfl
  | (d, y) :: r, T, k, hk => by
    simp only [List.map_cons, List.contains_cons, Bool.or_eq_false_iff, beq_eq_false_iff_ne] at hk
    simp only [upds]
    rw [if_neg hk.1]; exact upds_miss hk.2
omit [Gls] in
theorem tle_chain {ws : List Nat} {L L' : List (Nat × (Bool × V))} {T : Nat → Bool × V} (h1 : (L.all fun p => ws.contains p.1 || (L'.map (·.1)).contains p.1) = true) (h2 : okAll (upds L (forget ws T)) L') : TLe (upds L (forget ws T)) (upds L' (forget ws T)) := by
  intro k
  by_cases hk : (L'.map (·.1)).contains k = true
  · rcases okAll_get (T := forget ws T) h2 hk with h | h | ⟨ha, hb, hc⟩
    · right; left; exact h.symm
    · left; exact h
    · right; right
      refine ⟨_, Prod.ext ha rfl, _, Prod.ext hb rfl, hc⟩
  · have hk' : (L'.map (·.1)).contains k = false := by simpa using hk
    rw [upds_miss hk']
    by_cases hw : ws.contains k = true
    · left; simp only [forget, hw, if_true]
    · right; left
      refine (upds_miss ?_).symm
      cases hc : (L.map (·.1)).contains k with
      | false => rfl
      | true =>
        obtain ⟨p, hp, hpk⟩ := List.mem_map.1 (List.contains_iff_mem.1 hc)
        have := List.all_eq_true.1 h1 p hp
        subst hpk
        simp only [hw, hk', Bool.or_self] at this
        cases this
omit [Gls] in
theorem tle_start {ws : List Nat} {L' : List (Nat × (Bool × V))} {t : Nat → Bool × V} (h2 : okAll t L') : TLe t (upds L' (forget ws t)) := by
  intro k
  by_cases hk : (L'.map (·.1)).contains k = true
  · rcases okAll_get (T := forget ws t) h2 hk with h | h | ⟨ha, hb, hc⟩
    · right; left; exact h.symm
    · left; exact h
    · right; right
      refine ⟨_, Prod.ext ha rfl, _, Prod.ext hb rfl, hc⟩
  · have hk' : (L'.map (·.1)).contains k = false := by simpa using hk
    rw [upds_miss hk']
    by_cases hw : ws.contains k = true
    · left; simp only [forget, hw, if_true]
    · right; left; simp only [forget]; rw [if_neg hw]
theorem awp_loop0 {E : Env} {ok : Alts} {c : Code} {t t0 : Nat → Bool × V} {h h0 : Hp} (hgh : Gh { t := t0, h := h0 } { t := t, h := h }) {Q : Ex → St → Prop} {ι : Type} (ws : List Nat) (L : ι → List (Nat × (Bool × V))) (H : ι → Hp) (m : ι → Nat) (i0 : ι)
    (h1 : okAll t (L i0)) (h2 : HLe h (H i0))
    (h3 : ∀ i, awp E ok c { t := upds (L i) (forget ws t), h := H i } fun e st' => match e with
      | .normal => ∃ j, TLe st'.t (upds (L j) (forget ws t)) ∧ HLe st'.h (H j) ∧ m j < m i
      | e => Q e st') : awp E ok (.loop c) { t := t0, h := h0 } Q := by
  refine ⟨ι, fun i => { t := upds (L i) (forget ws t), h := H i }, m, i0, ⟨_, hgh, tle_start h1, h2⟩, fun i => ?_⟩
  refine awp_mono c _ _ _ (fun e st' hh => ?_) (h3 i)
  cases e with
  | normal => obtain ⟨j, h4, h5, h6⟩ := hh; exact ⟨j, ⟨h4, h5⟩, h6⟩
  | exit id => exact hh
  | ret => exact hh
theorem awp_loop {E : Env} {ok : Alts} {c : Code} {t : Nat → Bool × V} {h : Hp} {Q : Ex → St → Prop} {ι : Type} (ws : List Nat) (L : ι → List (Nat × (Bool × V))) (H : ι → Hp) (m : ι → Nat) (i0 : ι)
    (h1 : okAll t (L i0)) (h2 : HLe h (H i0))
    (h3 : ∀ i, awp E ok c { t := upds (L i) (forget ws t), h := H i } fun e st' => match e with
      | .normal => ∃ j, TLe st'.t (upds (L j) (forget ws t)) ∧ HLe st'.h (H j) ∧ m j < m i
      | e => Q e st') : awp E ok (.loop c) { t := t, h := h } Q := awp_loop0 (.refl _) ws L H m i0 h1 h2 h3
def ghs : List (Nat × Nat × Nat × TypeId) → (Nat → Bool × V) → Hp → (Nat → Bool × V) × Hp
  | [], t, h => (t, h)
  | (k, key, z, ty) :: r, t, h => ghs r (upd t (some k) (true, .bsl key (hnext h key) 0)) (hpush h key { z := z, els := [], ty := ty })
def ghc : List (Nat × Nat × Nat × TypeId) → (Nat → Bool × V) → Hp → Prop
  | [], _, _ => True
  | (k, key, z, ty) :: r, t, h => t k = (true, .nil) ∧ 0 < z ∧ key ≠ 999999999 ∧ ghc r (upd t (some k) (true, .bsl key (hnext h key) 0)) (hpush h key { z := z, els := [], ty := ty })
omit [Gls] in
theorem ghs_gh : ∀ (gs : List (Nat × Nat × Nat × TypeId)) (t : Nat → Bool × V) (h : Hp), ghc gs t h → Gh { t := t, h := h } { t := (ghs gs t h).1, h := (ghs gs t h).2 }
  | [], t, h, _ => .refl _
  | (k, key, z, ty) :: r, t, h, hc => .nil _ _ k key z ty hc.1 hc.2.1 hc.2.2.1 (ghs_gh r _ _ hc.2.2.2)
theorem awp_loop_g (gs : List (Nat × Nat × Nat × TypeId)) {E : Env} {ok : Alts} {c : Code} {t0 t : Nat → Bool × V} {h0 h : Hp} (hg : ghs gs t0 h0 = (t, h)) (hc : ghc gs t0 h0) {Q : Ex → St → Prop} {ι : Type} (ws : List Nat) (L : ι → List (Nat × (Bool × V))) (H : ι → Hp) (m : ι → Nat) (i0 : ι)
    (h1 : okAll t (L i0)) (h2 : HLe h (H i0))
    (h3 : ∀ i, awp E ok c { t := upds (L i) (forget ws t), h := H i } fun e st' => match e with
      | .normal => ∃ j, TLe st'.t (upds (L j) (forget ws t)) ∧ HLe st'.h (H j) ∧ m j < m i
      | e => Q e st') : awp E ok (.loop c) { t := t0, h := h0 } Q := by
  have := ghs_gh gs t0 h0 hc
  rw [hg] at this
  exact awp_loop0 this ws L H m i0 h1 h2 h3
omit [Gls] in
theorem wrap_id {n : Int} (h1 : -9223372036854775808 ≤ n) (h2 : n ≤ 9223372036854775807) : IntKind.wrap .i64 n = n := by
  rw [IntKind.wrap_i64]; omega
def ri (n : Int) : List V := [.int .i64 n]
def ints (l : List Int) : V := .sl 1 (l.map ri)
omit [Gls] in
theorem ri_inj {a b : Int} (h : ri a = ri b) : a = b := by simpa [ri] using h
def V.toInt : V → Int
  | .int _ n => n
  | _ => 0
def V.toBool : V → Bool
  | .bool b => b
  | _ => false
def V.rows : V → List (List V)
  | .sl _ els => els
  | _ => []
def rowInt : List V → Int
  | [v] => v.toInt
  | _ => 0
def V.toInts (v : V) : List Int := v.rows.map rowInt
@[simp] theorem toInts_ints (l : List Int) : (ints l).toInts = l := by
  simp [V.toInts, ints, V.rows, List.map_map]
  induction l with
  | nil => rfl
  | cons a l ih => simp [ri, rowInt, V.toInt, ih]
@[simp] theorem toInts_nil : V.nil.toInts = [] := rfl
def hps : List (Nat × Site) → Hp → Hp
  | [], H, s => H s
  | (k, S) :: L, H, s => if s = k then S else hps L H s
omit [Gls] in
theorem hps_cons (k : Nat) (S : Site) (L : List (Nat × Site)) (H : Hp) (s : Nat) : hps ((k, S) :: L) H s = if s = k then S else hps L H s := rfl
omit [Gls] in
theorem hps_nil (H : Hp) (s : Nat) : hps [] H s = H s := rfl
omit [Gls] in
theorem noH_app (s : Nat) : noH s = { base := 0, blks := [] } := rfl
omit [Gls] in
theorem hpush_noH (s : Nat) (B : Blk) : hpush noH s B = hps [(s, { base := 0, blks := [B] })] noH := by
  funext k; simp only [hpush, hps, noH]; split <;> simp_all
omit [Gls] in
theorem hpush_hps (L : List (Nat × Site)) (H : Hp) (s : Nat) (B : Blk) : hpush (hps L H) s B = hps ((s, { base := (hps L H s).base, blks := (hps L H s).blks ++ [B], fl := (hps L H s).fl, mps := (hps L H s).mps }) :: L) H := by
  funext k; simp only [hpush, hps]
omit [Gls] in
theorem hset_hps (L : List (Nat × Site)) (H : Hp) (s i : Nat) (B : Blk) : hset (hps L H) s i B = hps ((s, { base := (hps L H s).base, blks := (hps L H s).blks.set (i - (hps L H s).base) B, fl := (hps L H s).fl, mps := (hps L H s).mps }) :: L) H := by
  funext k; simp only [hset, hps]
omit [Gls] in
theorem hget_hps (L : List (Nat × Site)) (H : Hp) (s i : Nat) : hget (hps L H) s i = if i < (hps L H s).base then none else (hps L H s).blks[i - (hps L H s).base]? := rfl
omit [Gls] in
theorem hnext_hps (L : List (Nat × Site)) (H : Hp) (s : Nat) : hnext (hps L H) s = (hps L H s).base + (hps L H s).blks.length := rfl
omit [Gls] in
theorem frzH_hps (L : List (Nat × Site)) (H : Hp) (s : Nat) : frzH (hps L H) s = hps ((s, { base := (hps L H s).base, blks := (hps L H s).blks.map (fun B => { B with fz := true }), fl := (hps L H s).fl, mps := (hps L H s).mps }) :: L) H := by
  funext k; simp only [frzH, hps]
omit [Gls] in
theorem hcut_hps (L : List (Nat × Site)) (H : Hp) (s i : Nat) : hcut (hps L H) s i = hps ((s, { base := max (hps L H s).base (i + 1), blks := (hps L H s).blks.drop (i + 1 - (hps L H s).base), fl := (hps L H s).fl, mps := (hps L H s).mps }) :: L) H := by
  funext k; simp only [hcut, hps]
omit [Gls] in
theorem mget_hps (L : List (Nat × Site)) (H : Hp) (s i : Nat) : mget (hps L H) s i = (hps L H s).mps[i]? := rfl
omit [Gls] in
theorem mget_noH (s i : Nat) : mget noH s i = none := rfl
omit [Gls] in
theorem mset_hps (L : List (Nat × Site)) (H : Hp) (s i : Nat) (m : Mp) : mset (hps L H) s i m = hps ((s, { base := (hps L H s).base, blks := (hps L H s).blks, fl := (hps L H s).fl, mps := (hps L H s).mps.set i m }) :: L) H := by
  funext k; simp only [mset, hps]
omit [Gls] in
theorem mpush_hps (L : List (Nat × Site)) (H : Hp) (s : Nat) (m : Mp) : mpush (hps L H) s m = hps ((s, { base := (hps L H s).base, blks := (hps L H s).blks, fl := (hps L H s).fl, mps := (hps L H s).mps ++ [m] }) :: L) H := by
  funext k; simp only [mpush, hps]
omit [Gls] in
theorem mpush_noH (s : Nat) (m : Mp) : mpush noH s m = hps [(s, { base := 0, blks := [], mps := [m] })] noH := by
  funext k; simp only [mpush, hps, noH]; split <;> simp_all
omit [Gls] in
theorem hnext_noH (s : Nat) : hnext noH s = 0 := rfl
omit [Gls] in
theorem hget_noH (s i : Nat) : hget noH s i = none := rfl
def Kept (ws : List Nat) (t T : Nat → Bool × V) : Prop := ∀ k, ws.contains k = false → t k = T k
omit [Gls] in
theorem kept_base {ws : List Nat} {T : Nat → Bool × V} : Kept ws (forget ws T) T := fun k hk => by simp only [forget, hk, Bool.false_eq_true, if_false]
omit [Gls] in
theorem kept_upds {ws : List Nat} {L : List (Nat × (Bool × V))} {t T : Nat → Bool × V} (h : (L.all fun p => ws.contains p.1) = true) (hk : Kept ws t T) : Kept ws (upds L t) T := by
  intro k hw
  rw [upds_miss, hk k hw]
  cases hc : (L.map (·.1)).contains k with
  | false => rfl
  | true =>
    obtain ⟨p, hp, rfl⟩ := List.mem_map.1 (List.contains_iff_mem.1 hc)
    have := List.all_eq_true.1 h p hp
    rw [hw] at this; cases this
omit [Gls] in
theorem kept_forget {ws ws2 : List Nat} {t T : Nat → Bool × V} (h : (ws2.all fun k => ws.contains k) = true) (hk : Kept ws t T) : Kept ws (forget ws2 t) T := by
  intro k hw
  simp only [forget]
  rw [if_neg]
  · exact hk k hw
  · intro hc
    have := List.all_eq_true.1 h k (List.contains_iff_mem.1 hc)
    rw [hw] at this; cases this
omit [Gls] in
theorem tle_kept {ws : List Nat} {L' : List (Nat × (Bool × V))} {t T : Nat → Bool × V} (hk : Kept ws t T) (h2 : okAll t L') : TLe t (upds L' (forget ws T)) := by
  intro k
  by_cases hm : (L'.map (·.1)).contains k = true
  · rcases okAll_get (T := forget ws T) h2 hm with h | h | ⟨ha, hb, hc⟩
    · right; left; exact h.symm
    · left; exact h
    · right; right
      refine ⟨_, Prod.ext ha rfl, _, Prod.ext hb rfl, hc⟩
  · have hm' : (L'.map (·.1)).contains k = false := by simpa using hm
    rw [upds_miss hm']
    by_cases hw : ws.contains k = true
    · left; simp only [forget, hw, if_true]
    · right; left
      have hw' : ws.contains k = false := by simpa using hw
      rw [hk k hw']
      simp only [forget, hw', Bool.false_eq_true, if_false]
omit [Gls] in
theorem hps_over (k : Nat) (S S' : Site) (L : List (Nat × Site)) (H : Hp) : hps ((k, S) :: (k, S') :: L) H = hps ((k, S) :: L) H := by
  funext s; simp only [hps]; split <;> simp_all
omit [Gls] in
theorem HLe.clear {h h' : Hp} (h1 : ∀ s i, hget h' s i = none) (h2 : ∀ s, hnext h s ≤ hnext h' s) (hy : h' YS = h YS) (hm : ∀ s, (h' s).mps = (h s).mps) : HLe h h' :=
  ⟨⟨fun s i B hg => (by rw [h1] at hg; cases hg), h2⟩, hy, hm⟩
omit [Gls] in
theorem hps_clear : ∀ {L : List (Nat × Site)}, (L.all fun p => p.2.blks.isEmpty) = true → ∀ s i, hget (hps L noH) s i = none
  | [], _, s, i => by simp [hget, hps, noH]
  | (k, S) :: L, h, s, i => by
    simp only [List.all_cons, Bool.and_eq_true, List.isEmpty_iff] at h
    have ih := hps_clear h.2 s i
    unfold hget at ih ⊢
    rw [hps_cons]
    by_cases hs : s = k
    · rw [if_pos hs, h.1]; simp
    · rw [if_neg hs]; exact ih
omit [Gls] in
theorem HLe.forget {h : Hp} {L : List (Nat × Site)} (h1 : (L.all fun p => p.2.blks.isEmpty) = true) (h2 : ∀ s, hnext h s ≤ hnext (hps L noH) s) (hy : hps L noH YS = h YS) (hm : ∀ s, (hps L noH s).mps = (h s).mps) : HLe h (hps L noH) := HLe.clear (hps_clear h1) h2 hy hm
def sLe (S S' : Site) : Prop := (S'.blks = [] ∧ S.base + S.blks.length ≤ S'.base ∧ S'.mps = S.mps) ∨ ∃ d, d ≤ S.blks.length ∧ S'.base = S.base + d ∧ S'.blks = S.blks.drop d ∧ S'.mps = S.mps
omit [Gls] in
theorem sLe.same {S S' : Site} (h1 : S'.base = S.base) (h2 : S'.blks = S.blks) (hm : S'.mps = S.mps := by first | rfl | simp) : sLe S S' := .inr ⟨0, Nat.zero_le _, h1, by simpa using h2, hm⟩
omit [Gls] in
theorem sLe.clear {S S' : Site} (h1 : S'.blks = []) (h2 : S.base + S.blks.length ≤ S'.base) (hm : S'.mps = S.mps := by first | rfl | simp) : sLe S S' := .inl ⟨h1, h2, hm⟩
omit [Gls] in
theorem sLe.drop {S S' : Site} (d : Nat) (h0 : d ≤ S.blks.length) (h1 : S'.base = S.base + d) (h2 : S'.blks = S.blks.drop d) (hm : S'.mps = S.mps := by first | rfl | simp) : sLe S S' := .inr ⟨d, h0, h1, h2, hm⟩
def allK (P : Nat → Prop) : List Nat → Prop
  | [] => True
  | k :: r => P k ∧ allK P r
omit [Gls] in
theorem allK_mem {P : Nat → Prop} : ∀ {l : List Nat}, allK P l → ∀ k ∈ l, P k
  | [], _, k, hk => by simp at hk
  | a :: r, h, k, hk => by
    rcases List.mem_cons.1 hk with rfl | hk
    · exact h.1
    · exact allK_mem h.2 k hk
omit [Gls] in
theorem HLe.sites {h h' : Hp} (H : ∀ s, sLe (h s) (h' s)) (hy : h' YS = h YS) : HLe h h' := by
  refine ⟨⟨fun s i B hg => ?_, fun s => ?_⟩, hy, fun s => by rcases H s with ⟨_, _, h⟩ | ⟨_, _, _, _, h⟩ <;> exact h⟩
  · unfold hget at hg ⊢
    rcases H s with ⟨h1, _⟩ | ⟨d, h0, h1, h2, _⟩
    · rw [h1] at hg; simp at hg
    · rw [h1, h2] at hg
      split at hg
      · cases hg
      · rw [if_neg (by omega)]
        rw [List.getElem?_drop] at hg
        rw [← hg]; congr 1; omega
  · unfold hnext
    rcases H s with ⟨h1, h2, _⟩ | ⟨d, h0, h1, h2, _⟩
    · rw [h1]; simpa using h2
    · rw [h1, h2]; simp; omega
omit [Gls] in
theorem hps_not {L : List (Nat × Site)} {H : Hp} {s : Nat} (h : s ∉ L.map (·.1)) : hps L H s = H s := by
  induction L with
  | nil => rfl
  | cons p L ih =>
    obtain ⟨k, S⟩ := p
    simp only [List.map_cons, List.mem_cons, not_or] at h
    rw [hps_cons, if_neg h.1]; exact ih h.2
omit [Gls] in
theorem hle_hpsb {L L' : List (Nat × Site)} {H : Hp} (h : allK (fun k => sLe (hps L H k) (hps L' H k)) (L.map (·.1) ++ L'.map (·.1))) (hy : (L.map (·.1) ++ L'.map (·.1)).contains 999999999 = false := by first | rfl | simp) : HLe (hps L H) (hps L' H) := by
  have hns : YS ∉ L.map (·.1) ++ L'.map (·.1) := by
    intro hm
    have : (L.map (·.1) ++ L'.map (·.1)).contains 999999999 = true := by simpa [List.contains_eq_mem] using hm
    rw [hy] at this; cases this
  refine .sites (fun s => ?_) ?_
  · by_cases hs : s ∈ L.map (·.1) ++ L'.map (·.1)
    · exact allK_mem h s hs
    · rw [List.mem_append, not_or] at hs
      rw [hps_not hs.1, hps_not hs.2]
      exact .same rfl rfl
  · rw [List.mem_append, not_or] at hns
    rw [hps_not hns.1, hps_not hns.2]
omit [Gls] in
theorem hle_hps {L L' : List (Nat × Site)} (h : allK (fun k => sLe (hps L noH k) (hps L' noH k)) (L.map (·.1) ++ L'.map (·.1))) (hy : (L.map (·.1) ++ L'.map (·.1)).contains 999999999 = false := by first | rfl | simp) : HLe (hps L noH) (hps L' noH) := hle_hpsb h hy
omit [Gls] in
theorem hset_hset (h : Hp) (s i : Nat) (B B' : Blk) : hset (hset h s i B) s i B' = hset h s i B' := by
  funext k; simp only [hset]; split <;> simp [List.set_set]
end Go.Sx
end
section
/- The simp set of the walk. No conditions. -/
namespace Go.Sx
variable [Gls]
@[simp] theorem upds_cons (d : Nat) (x : Bool × V) (L : List (Nat × (Bool × V))) (T : Nat → Bool × V) (k : Nat) : upds ((d, x) :: L) T k = if k = d then x else upds L T k := rfl
@[simp] theorem upds_nil (T : Nat → Bool × V) (k : Nat) : upds [] T k = T k := rfl
@[simp] theorem forget_app (ws : List Nat) (T : Nat → Bool × V) (k : Nat) : forget ws T k = if ws.contains k = true then (true, .top) else T k := rfl
@[simp] theorem topT_app (k : Nat) : topT k = (true, .top) := rfl
@[simp] theorem entry_eq (args : List V) (h : Hp) : entry args h = { t := upds (zipT 0 args) topT, h := h } := rfl
inductive Tg {α : Type} (q : α) : Type where
  | mk : Tg q
def Also (c : Prop) (st : St) (k : St → Prop) (_ : Tg k) : Prop := c ∧ k st
def Hold (c : Prop) (st : St) (k : St → Prop) (_ : Tg k) : Prop := c → k st
@[simp] theorem also_true (st : St) (k : St → Prop) (t : Tg k) : Also True st k t = k st := by simp [Also]
@[simp] theorem hold_true (st : St) (k : St → Prop) (t : Tg k) : Hold True st k t = k st := by simp [Hold]
@[simp] theorem hold_false (st : St) (k : St → Prop) (t : Tg k) : Hold False st k t = True := by simp [Hold]
omit [Gls] in
theorem Also.intro {c : Prop} {st : St} {k : St → Prop} {t : Tg k} (h : c) (h' : c → k st) : Also c st k t := ⟨h, h' h⟩
omit [Gls] in
theorem Hold.intro {c : Prop} {st : St} {k : St → Prop} {t : Tg k} (h : c → k st) : Hold c st k t := h
def runC (E : Env) (all : List Oper) : List Oper → St → (St → Prop) → Prop
  | [], st, K => K st
  | o :: r, st, K => match step E all o st with
    | (c, st') => Also c st' (fun st' => runC E all r st' K) .mk
theorem runC_eq (E : Env) (all : List Oper) : ∀ (ops : List Oper) (st : St) (K : St → Prop), runC E all ops st K = ((runL E all ops st).1 ∧ K (runL E all ops st).2)
  | [], st, K => by simp [runC, runL]
  | o :: r, st, K => by
    rw [runC, runL]
    cases hs : step E all o st with
    | mk c st' =>
      simp only [Also]
      rw [runC_eq E all r st' K]
      simp [and_assoc]
@[simp ↓] theorem runC_nil (E : Env) (all : List Oper) (st : St) (K : St → Prop) : runC E all [] st K = K st := rfl
@[simp ↓] theorem runC_cons (E : Env) (all : List Oper) (o : Oper) (r : List Oper) (st : St) (K : St → Prop) : runC E all (o :: r) st K = (match step E all o st with
    | (c, st') => Also c st' (fun st' => runC E all r st' K) .mk) := rfl
def runIC (E : Env) (all : List Oper) (fr : List Nat) : List Nat → St → (St → Prop) → Prop
  | [], st, K => K st
  | i :: l, st, K => match all[i]? with
    | none => runIC E all fr l st K
    | some o => Also ((fr.contains i = true → FreeAt E o st) ∧ (fr.contains (i + 1000) = true → FzOk o st) ∧ (fr.contains (i + 2000) = true → FoOk E all o st) ∧ (fr.contains (i + 3000) = true → NwOk o st)) st (fun st => match step E all o st with
      | (c, st') => Also c st' (fun st' => runIC E all fr l st' K) .mk) .mk
theorem runIC_eq (E : Env) (all : List Oper) (fr : List Nat) : ∀ (l : List Nat) (st : St) (K : St → Prop), runIC E all fr l st K = ((runI E all fr l st).1 ∧ K (runI E all fr l st).2)
  | [], st, K => by simp [runIC, runI]
  | i :: l, st, K => by
    rw [runIC, runI]
    cases ho : all[i]? with
    | none => exact runIC_eq E all fr l st K
    | some o =>
      simp only [Also]
      rw [runIC_eq E all fr l _ K]
      simp [and_assoc]
def runsC (E : Env) (all : List Oper) (fr : List Nat) : List (List Nat) → St → (St → Prop) → Prop
  | [], _, _ => True
  | l :: r, st, K => runIC E all fr l st K ∧ runsC E all fr r st K
theorem runsC_eq (E : Env) (all : List Oper) (fr : List Nat) (cs : List (List Nat)) (st : St) (K : St → Prop) : runs E all fr cs st K = runsC E all fr cs st K := by
  induction cs with
  | nil => rfl
  | cons l r ih => simp only [runs, runsC, runIC_eq, ih]
@[simp ↓] theorem runIC_nil (E : Env) (all : List Oper) (fr : List Nat) (st : St) (K : St → Prop) : runIC E all fr [] st K = K st := rfl
@[simp ↓] theorem runIC_cons (E : Env) (all : List Oper) (fr : List Nat) (i : Nat) (l : List Nat) (st : St) (K : St → Prop) : runIC E all fr (i :: l) st K = (match all[i]? with
    | none => runIC E all fr l st K
    | some o => Also ((fr.contains i = true → FreeAt E o st) ∧ (fr.contains (i + 1000) = true → FzOk o st) ∧ (fr.contains (i + 2000) = true → FoOk E all o st) ∧ (fr.contains (i + 3000) = true → NwOk o st)) st (fun st => match step E all o st with
      | (c, st') => Also c st' (fun st' => runIC E all fr l st' K) .mk) .mk) := rfl
@[simp ↓] theorem runsC_nil (E : Env) (all : List Oper) (fr : List Nat) (st : St) (K : St → Prop) : runsC E all fr [] st K = True := rfl
@[simp ↓] theorem runsC_cons (E : Env) (all : List Oper) (fr : List Nat) (l : List Nat) (r : List (List Nat)) (st : St) (K : St → Prop) : runsC E all fr (l :: r) st K = (runIC E all fr l st K ∧ runsC E all fr r st K) := rfl
def lk : Alts → Nat → Option (List Nat × List (List Nat))
  | [], _ => none
  | (a, p) :: r, id => if id = a then some p else lk r id
@[simp] theorem lk_nil (id : Nat) : lk [] id = none := rfl
@[simp] theorem lk_cons (a : Nat) (p : List Nat × List (List Nat)) (r : Alts) (id : Nat) : lk ((a, p) :: r) id = if id = a then some p else lk r id := rfl
theorem lk_eq (id : Nat) : ∀ (ok : Alts), ok.lookup id = lk ok id
  | [] => rfl
  | (a, p) :: r => by
    rw [lk_cons, List.lookup]
    by_cases h : id = a
    · subst h; simp
    · have h' : (id == a) = false := by simpa using h
      rw [h', if_neg h]; exact lk_eq id r
@[simp] theorem lkf_nil (id : Nat) : lkf [] id = [] := rfl
@[simp] theorem lkf_cons (a : Nat) (p : List Nat) (r : List (Nat × List Nat)) (id : Nat) : lkf ((a, p) :: r) id = if id = a then p else lkf r id := rfl
def frzC (l : List Nat) (st : St) (K : St → Prop) (_ : Tg K) : Prop := (frzs l st).1 ∧ K (frzs l st).2
@[simp] theorem frzC_nil (st : St) (K : St → Prop) (t : Tg K) : frzC [] st K t = K st := by simp [frzC, frzs]
@[simp] theorem frzC_cons (k : Nat) (r : List Nat) (st : St) (K : St → Prop) (t : Tg K) : frzC (k :: r) st K t = (match frzK k st with
    | (c, st') => Also c st' (fun st => frzC r st K t) .mk) := by
  simp only [frzC, frzs, Also]
  simp [and_assoc]
def drawC (o : Option (List Nat × List (List Nat))) (E : Env) (all : List Oper) (st : St) (K : St → Prop) (_ : Tg K) : Prop :=
  match o with
  | none => runC E all all st K
  | some (fr, cs) => runsC E all fr cs st K
@[simp] theorem drawC_none (E : Env) (all : List Oper) (st : St) (K : St → Prop) (t : Tg K) : drawC none E all st K t = runC E all all st K := rfl
@[simp] theorem drawC_some (E : Env) (all : List Oper) (st : St) (K : St → Prop) (t : Tg K) (fr : List Nat) (cs : List (List Nat)) : drawC (some (fr, cs)) E all st K t = runsC E all fr cs st K := rfl
section
variable (E : Env) (ok : Alts) (st : St) (Q : Ex → St → Prop)
@[simp ↓] theorem awp_skip : awp E ok .skip st Q = Q .normal st := rfl
@[simp ↓] theorem awp_ret : awp E ok .ret st Q = Q .ret st := rfl
@[simp ↓] theorem awp_exit (id : Nat) : awp E ok (.exit id) st Q = Q (.exit id) st := rfl
@[simp ↓] theorem awp_region (id : Nat) (ops : Array Oper) : awp E ok (.region id ops false) st Q = frzC (lkf E.frz id) st (fun st => runC E ops.toList ops.toList st (fun st' => Q .normal st')) .mk := by
  simp only [awp, frzC, runC_eq]
@[simp ↓] theorem awp_region_draw (id : Nat) (ops : Array Oper) : awp E ok (.region id ops true) st Q = frzC (lkf E.frz id) st (fun st => drawC (lk ok id) E ops.toList st (fun st' => Q .normal st') .mk) .mk := by
  rw [← lk_eq]
  simp only [awp, drawC, frzC]
  cases ok.lookup id with
  | none => simp only []; rw [runC_eq]
  | some p => obtain ⟨fr, cs⟩ := p; simp only []; rw [runsC_eq]
@[simp ↓] theorem awp_seq (a b : Code) : awp E ok (.seq a b) st Q = awp E ok a st fun e st' => match e with
    | .normal => awp E ok b st' Q
    | e => Q e st' := rfl
@[simp ↓] theorem awp_cond (c : Operand) (x y : Code) : awp E ok (.cond c x y) st Q = (match ev st c with
    | (g, .bool b) => g = true ∧ Hold (b = true) st (fun st => awp E ok x st Q) .mk ∧ Hold (b = false) st (fun st => awp E ok y st Q) .mk
    | (g, .anyb) => g = true ∧ awp E ok x st Q ∧ awp E ok y st Q
    | _ => False) := by
  simp only [awp, Hold]; rfl
@[simp ↓] theorem awp_block (id : Nat) (c : Code) : awp E ok (.block id c) st Q = awp E ok c st fun e st' => match e with
    | .exit i => if i = id then Q .normal st' else Q (.exit i) st'
    | e => Q e st' := rfl
end
omit [Gls] in
theorem hle_refl (h : Hp) : HLe h h = True := eq_true (HLe.refl h)
@[simp] theorem wrap_zero : IntKind.wrap .i64 0 = 0 := wrap_id (by omega) (by omega)
@[simp] theorem wrap_mone : IntKind.wrap .i64 (-1) = -1 := wrap_id (by omega) (by omega)
attribute [simp] appendV hps_over hps_cons hps_nil noH_app hpush_noH hpush_hps hset_hps hget_hps hnext_hps hnext_noH hget_noH mget_hps mget_noH mset_hps mpush_hps mpush_noH
@[simp] theorem vite_true (x y : V) : vite true x y = x := by
  unfold vite
  split
  · rfl
  · split <;> simp_all
  · rfl
@[simp] theorem vite_false (x y : V) : vite false x y = y := by
  unfold vite
  split
  · rfl
  · split <;> simp_all
  · rfl
@[simp] theorem vite_bool (b p q : Bool) : vite b (.bool p) (.bool q) = .bool (if b then p else q) := rfl
@[simp] theorem vite_int (b : Bool) (k : IntKind) (m n : Int) : vite b (.int k m) (.int k n) = .int k (if b then m else n) := by simp [vite]
omit [Gls] in
@[simp] theorem V.len_emp : V.emp.len = some 0 := rfl
omit [Gls] in
@[simp] theorem V.len_nil : V.nil.len = some 0 := rfl
omit [Gls] in
@[simp] theorem V.len_sl (z : Nat) (els : List (List V)) : (V.sl z els).len = some els.length := rfl
omit [Gls] in
@[simp] theorem V.len_bsl (s i n : Nat) : (V.bsl s i n).len = some n := rfl
omit [Gls] in
@[simp] theorem V.len_osl (s i n off len cap : Nat) : (V.osl s i n off len cap).len = some len := rfl
attribute [simp] guardB_bool guardB_off preZ frzHs sClear frzW sCut sCopy takeV srcB hcut_hps frzK frzP frzH_hps fzCs fzRs V.at? fzN fzA FzOk FoOk NwOk nilApp pusher eqTs frz1 ghs ghc runL step sem guardV ev2 ev upd_upds upd_none dstOk valid allv Op.operands ofVal ofVal1 binV unkE hite_same hite_true hite_false zipT
 sAlloc sBox sBuild sBuildSlice sBuildE sLoad sStore sUn sConv sMakeSlice sFieldAddr sField sIndexAddr sIndex sLen sMax sAppendZ sCap sMkMap sLook sMapSet kR mpV xI xV allInts sCall sExtract sPick sNil callF lends lend lend1 lendN lendB lendRs lendCs lends1 loadR splice fills fillRows asI optI foldMax sliceV eqV
 resV ressV retV okAll V.cells V.cell1 V.refFree V.refFree1 V.scal V.scal1 V.leaf V.argOk subs1 subs0 sub sub1 sub0
theorem pb {E : Env} {ok : Alts} {fn : Func} {dom : Type} {enc : dom → List V} {dec : List V → dom} {pre : dom → Prop} {res : dom → V} (h : ∀ d : dom, pre d → awp E ok (fn.body.getD .skip) (entry (enc d) noH) fun e st => (e = .normal ∨ e = .ret) ∧ match retV E.P fn.results.toList st with
    | (c, v) => c ∧ sub v (res d)) (hyl : E.yl = none := by rfl) : PureBody E ok fn ⟨dom, enc, dec, pre, res⟩ := ⟨hyl, h⟩
end Go.Sx
end
