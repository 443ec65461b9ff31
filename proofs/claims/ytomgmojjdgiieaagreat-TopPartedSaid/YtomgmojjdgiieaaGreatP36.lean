/- Engine, plain: what a craft is in an air: its rates, its wakes. No conditions. -/
import Derived.Test.YtomgmojjdgiieaaGreatP35
set_option linter.unusedSimpArgs false
set_option linter.unusedVariables false
set_option linter.unusedSectionVars false
set_option linter.unusedSimpArgs false
set_option linter.unusedSectionVars false
namespace Go.Sx.Rot
open Go.Proofs Go.Sx Go.Sx.Tab
theorem bnd_of {d : BdD} (h : bdErr d = 0) {L H : Int} (hv : Vin d.t L H) : L ≤ (bndF d).lo ∧ (bndF d).lo ≤ (bndF d).hi ∧ (bndF d).hi ≤ H := by
  rw [bndF, if_pos h]
  have a := bound_vals h hv
  exact ⟨a.1, bound_le h, a.2⟩
structure CaF (c : Cr) (a : Ai) : Prop where
  rot : rotB c.r = true
  int : crI c = true
  l0 : lieB c.r.l.xs ⟨0, c.top * c.unit⟩ = true
  r0 : lieB c.r.rl.xs ⟨0, 0⟩ = true
  w : spN a.w = false
  t : spN a.t = false
  h : spN a.h = false
  v : spN a.v = false
  px : lieB c.r.p.xs a.t = true
  py : lieB c.r.p.ys a.h = true
  ly : lieB c.r.l.ys a.w = true
  ry : lieB c.r.rl.ys a.w = true
theorem ca_facts {c : Cr} {a : Ai} (h : caE c a = 0) : CaF c a := by
  unfold caE at h
  by_cases h1 : ccE c = 0
  case neg => rw [if_neg h1] at h; exact absurd h h1
  rw [if_pos h1] at h
  by_cases h2 : airE (caM c a) = 0
  case neg => rw [if_neg h2] at h; exact absurd h h2
  rw [if_pos h2] at h
  split at h
  case isFalse => cases h
  rename_i h3
  obtain ⟨k1, k2, k3, k4⟩ := ccE_ok h1
  unfold airE at h2
  rw [if_pos (show rotB (caM c a).r = true from k1)] at h2
  split at h2
  case isTrue => cases h2
  rename_i h4
  simp only [aiL, caM, List.any_cons, List.any_nil, Bool.or_false, Bool.or_eq_true, not_or, Bool.not_eq_true] at h4
  simp only [liB4, Bool.and_eq_true] at h3
  exact ⟨k1, k2, k3, k4, h4.1, h4.2.1, h4.2.2.1, h4.2.2.2, h3.1, h3.2.1, h3.2.2.1, h3.2.2.2⟩
theorem air_any {a : Ai} {c : Cr} (f : CaF c a) : (aiL a).any spN = false := by simp [aiL, f.w, f.t, f.h, f.v]
def vS (c : Cr) (v : Nat) : Sp := ⟨(v : Int) * c.unit, (v : Int) * c.unit⟩
def dS (c : Cr) (d : Nat) : Sp := ⟨(d : Int) * c.step, (d : Int) * c.step⟩
theorem vS_b {c : Cr} (h : crI c = true) {v : Nat} (hv : (v : Int) ≤ c.top) : 0 ≤ (v : Int) * c.unit ∧ (v : Int) * c.unit ≤ c.top * c.unit ∧ (v : Int) * c.unit ≤ 6000 := by
  have hb := crI_b h
  have ht := tu_b h
  have h1 : (v : Int) * c.unit ≤ c.top * c.unit := Int.mul_le_mul_of_nonneg_right hv (by omega)
  exact ⟨Int.mul_nonneg (by omega) (by omega), h1, by omega⟩
theorem dS_b {c : Cr} (h : crI c = true) {d : Nat} (hd : (d : Int) ≤ c.drop) : 0 ≤ (d : Int) * c.step ∧ (d : Int) * c.step ≤ 3000 := by
  have hb := crI_b h
  have h1 : (d : Int) * c.step ≤ 3 * 1000 := Int.mul_le_mul (by omega) (by omega) (by omega) (by omega)
  exact ⟨Int.mul_nonneg (by omega) (by omega), by omega⟩
theorem sp_pt {x : Int} (h : 0 ≤ x ∧ x ≤ 10000) : spN ⟨x, x⟩ = false := by
  rw [spN_eq]
  simp only [Bool.not_eq_false', decide_eq_true_eq]
  omega
theorem vS_sp {c : Cr} (h : crI c = true) {v : Nat} (hv : (v : Int) ≤ c.top) : spN (vS c v) = false := sp_pt (by have := vS_b h hv; omega)
theorem dS_sp {c : Cr} (h : crI c = true) {d : Nat} (hd : (d : Int) ≤ c.drop) : spN (dS c d) = false := sp_pt (by have := dS_b h hd; omega)
theorem lie_le {l : List Int} {s t : Sp} (h : lieB l s = true) (h1 : s.lo ≤ t.lo) (h2 : t.hi ≤ s.hi) : lieB l t = true := by
  unfold lieB at *
  simp only [Bool.and_eq_true, decide_eq_true_eq] at *
  omega
theorem lev_lk {c : Cr} {a : Ai} (f : CaF c a) {v : Nat} (hv : (v : Int) ≤ c.top) : lkB (levD (caM c a) (vS c v)) = true := by
  have b := vS_b f.int hv
  have h1 : lieB c.r.l.xs (vS c v) = true := lie_le f.l0 (by show 0 ≤ _; exact b.1) (by show _ ≤ c.top * c.unit; exact b.2.1)
  show (lieB c.r.l.xs (vS c v) && lieB c.r.l.ys a.w) = true
  rw [h1, f.ly]; rfl
def lastR (c : Cr) : Int := c.r.rl.xs.getD (c.r.rl.xs.length - 1) 0
theorem rng_lk {c : Cr} {a : Ai} (f : CaF c a) {v : Nat} (hv : (v : Int) * c.unit ≤ lastR c) (h0 : 0 ≤ (v : Int) * c.unit) : lkB (rngD (caM c a) (vS c v)) = true := by
  have h1 : lieB c.r.rl.xs (vS c v) = true := by
    have := f.r0
    unfold lieB at *
    simp only [Bool.and_eq_true, decide_eq_true_eq] at *
    exact ⟨by show _ ≤ (v : Int) * c.unit; omega, hv⟩
  show (lieB c.r.rl.xs (vS c v) && lieB c.r.rl.ys a.w) = true
  rw [h1, f.ry]; rfl
theorem ck_of {m : Ma} {k : Kd} (h1 : rotB m.r = true) (h2 : (aiL m.a).any spN = false) (h3 : (kdS k).any spN = false) (h4 : (kdL m k).any lkN = false) : ckE m k = 0 := by
  simp [ckE, h1, h2, h3, h4]
theorem ck_has0 {c : Cr} {a : Ai} (f : CaF c a) : ckE (caM c a) .has = 0 := by
  refine ck_of f.rot (air_any f) rfl ?_
  have : lkB (powD (caM c a)) = true := by show (lieB c.r.p.xs a.t && lieB c.r.p.ys a.h) = true; rw [f.px, f.py]; rfl
  simp [kdL, lkN, this]
theorem ck_lvl0 {c : Cr} {a : Ai} (f : CaF c a) {v : Nat} (hv : (v : Int) ≤ c.top) : ckE (caM c a) (.lvl (vS c v)) = 0 := by
  refine ck_of f.rot (air_any f) (by simp [kdS, vS_sp f.int hv]) (by simp [kdL, lkN, lev_lk f hv])
theorem ck_wk0 {c : Cr} {a : Ai} (f : CaF c a) {v d : Nat} (hv : (v : Int) ≤ c.top) (hd : (d : Int) ≤ c.drop) (hl : (v : Int) * c.unit ≤ lastR c) : ckE (caM c a) (.wk (vS c v) (dS c d)) = 0 := by
  have b := vS_b f.int hv
  refine ck_of f.rot (air_any f) (by simp [kdS, vS_sp f.int hv, dS_sp f.int hd]) (by simp [kdL, lkN, rng_lk f hl b.1])
theorem tb_of {r : Ro} (h : rotB r = true) {l : Lim} (hl : l ∈ limL r) : tbB l.t = true ∧ Vin l.t l.lo l.hi := by
  simp only [rotB, Bool.and_eq_true, List.all_eq_true] at h
  have := h.1 l hl
  refine ⟨?_, limB_vin this⟩
  simp only [limB, Bool.and_eq_true] at this; exact this.1
theorem bd_of {d : BdD} (h1 : tbB d.t = true) (h2 : spN d.a = false) (h3 : spN d.b = false) (h4 : lkB d = true) : bdErr d = 0 := by
  unfold bdErr
  rw [if_pos h1, if_neg (by simp [h2, h3]), if_pos (show (lieB d.t.xs d.a && lieB d.t.ys d.b) = true from h4)]
theorem bd_pow {c : Cr} {a : Ai} (f : CaF c a) : bdErr (powD (caM c a)) = 0 :=
  bd_of (tb_of f.rot (l := ⟨c.r.p, 0, 100000⟩) (by simp [limL])).1 f.t f.h (by show (lieB c.r.p.xs a.t && lieB c.r.p.ys a.h) = true; rw [f.px, f.py]; rfl)
theorem bd_lev {c : Cr} {a : Ai} (f : CaF c a) {v : Nat} (hv : (v : Int) ≤ c.top) : bdErr (levD (caM c a) (vS c v)) = 0 :=
  bd_of (tb_of f.rot (l := ⟨c.r.l, 0, 100000⟩) (by simp [limL])).1 (vS_sp f.int hv) f.w (lev_lk f hv)
theorem bd_rng {c : Cr} {a : Ai} (f : CaF c a) {v : Nat} (hv : (v : Int) ≤ c.top) (hl : (v : Int) * c.unit ≤ lastR c) : bdErr (rngD (caM c a) (vS c v)) = 0 :=
  bd_of (tb_of f.rot (l := ⟨c.r.rl, 0, 10000⟩) (by simp [limL])).1 (vS_sp f.int hv) f.w (rng_lk f hl (vS_b f.int hv).1)
theorem bd_rgH {c : Cr} {a : Ai} (f : CaF c a) {v : Nat} (hv : (v : Int) ≤ c.top) (hl : (v : Int) * c.unit ≤ lastR c) : bdErr (rgHD (caM c a) (vS c v)) = 0 := by
  have h := rng_lk f hl (vS_b f.int hv).1
  have hr := f.rot
  simp only [rotB, Bool.and_eq_true, decide_eq_true_eq] at hr
  refine bd_of (tb_of f.rot (l := ⟨c.r.rh, 0, 10000⟩) (by simp [limL])).1 (vS_sp f.int hv) f.w ?_
  show (lieB c.r.rh.xs (vS c v) && lieB c.r.rh.ys a.w) = true
  rw [← hr.2.1, ← hr.2.2.1]; exact h
def hfS (c : Cr) (a : Ai) : Sp := maF (paF (bndF (powD (caM c a))) c.one 100)
def pwN (c : Cr) (a : Ai) (e : Nat) : Int := if e = 0 then (bndF (powD (caM c a))).lo else (hfS c a).lo
def rt (c : Cr) (a : Ai) (e v : Nat) : Int := (pwN c a e - (bndF (levD (caM c a) (vS c v))).hi) / (c.r.climb * c.step)
def wkv (c : Cr) (a : Ai) (v d : Nat) : Bool := if 0 < d ∧ (v : Int) * c.unit ≤ lastR c then wkB (caM c a) (vS c v) (dS c d) else false
theorem pow_b {c : Cr} {a : Ai} (f : CaF c a) : 0 ≤ (bndF (powD (caM c a))).lo ∧ (bndF (powD (caM c a))).lo ≤ (bndF (powD (caM c a))).hi ∧ (bndF (powD (caM c a))).hi ≤ 100000 :=
  bnd_of (bd_pow f) (tb_of f.rot (l := ⟨c.r.p, 0, 100000⟩) (by simp [limL])).2
theorem lev_b {c : Cr} {a : Ai} (f : CaF c a) {v : Nat} (hv : (v : Int) ≤ c.top) : 0 ≤ (bndF (levD (caM c a) (vS c v))).lo ∧ (bndF (levD (caM c a) (vS c v))).lo ≤ (bndF (levD (caM c a) (vS c v))).hi ∧ (bndF (levD (caM c a) (vS c v))).hi ≤ 100000 :=
  bnd_of (bd_lev f hv) (tb_of f.rot (l := ⟨c.r.l, 0, 100000⟩) (by simp [limL])).2
theorem half_eq {c : Cr} {a : Ai} (f : CaF c a) : spN (paF (bndF (powD (caM c a))) c.one 100) = false := by
  have b := pow_b f
  have o := (crI_b f.int).1
  have m1 : 0 ≤ (bndF (powD (caM c a))).lo * c.one := Int.mul_nonneg (by omega) (by omega)
  have m2 : (bndF (powD (caM c a))).lo * c.one ≤ (bndF (powD (caM c a))).hi * c.one := Int.mul_le_mul_of_nonneg_right b.2.1 (by omega)
  have m3 : (bndF (powD (caM c a))).hi * c.one ≤ 100000 * 100 := Int.mul_le_mul (by omega) (by omega) (by omega) (by omega)
  rw [spN_eq]
  simp only [Bool.not_eq_false']
  apply decide_eq_true
  simp only [paF]
  omega
theorem half_lo {c : Cr} {a : Ai} (f : CaF c a) : (hfS c a).lo = (bndF (powD (caM c a))).lo * c.one / 100 ∧ 0 ≤ (hfS c a).lo ∧ (hfS c a).lo ≤ 100000 := by
  have e : hfS c a = paF (bndF (powD (caM c a))) c.one 100 := if_neg (by rw [half_eq f]; simp)
  have h := half_eq f
  rw [spN_eq] at h
  simp only [Bool.not_eq_false', decide_eq_true_eq] at h
  have b := pow_b f
  have o := (crI_b f.int).1
  have m1 : 0 ≤ (bndF (powD (caM c a))).lo * c.one := Int.mul_nonneg (by omega) (by omega)
  have m3 : (bndF (powD (caM c a))).lo * c.one ≤ 100000 * 100 := Int.mul_le_mul (by omega) (by omega) (by omega) (by omega)
  rw [e]
  refine ⟨rfl, ?_, ?_⟩ <;> (show _ ≤ _; simp only [paF]; omega)
theorem pw_b {c : Cr} {a : Ai} (f : CaF c a) (e : Nat) : 0 ≤ pwN c a e ∧ pwN c a e ≤ 100000 := by
  have b := pow_b f
  have h := half_lo f
  unfold pwN
  split <;> omega
theorem den_b {c : Cr} {a : Ai} (f : CaF c a) : 1 ≤ c.r.climb * c.step ∧ c.r.climb * c.step ≤ 1000000 := by
  have hr := f.rot
  simp only [rotB, Bool.and_eq_true, withinB, decide_eq_true_eq] at hr
  have hb := (crI_b f.int).2.2.1
  have h1 := hr.2.2.2.1
  exact ⟨by have := Int.mul_le_mul h1.1 hb.1 (by omega) (by omega); omega, by have := Int.mul_le_mul h1.2 hb.2 (by omega) (by omega); omega⟩
structure Ins (s' s : Sp) : Prop where
  a : s.lo ≤ s'.lo
  b : s'.lo ≤ s'.hi
  c : s'.hi ≤ s.hi
structure AiIn (a' a : Ai) : Prop where
  w : Ins a'.w a.w
  t : Ins a'.t a.t
  h : a'.h = a.h
  v : a'.v = a.v
theorem spN_part {s s' : Sp} (h : spN s = false) (hi : Ins s' s) : spN s' = false := by
  rw [spN_eq] at *
  simp only [Bool.not_eq_false', decide_eq_true_eq] at *
  have := hi.a; have := hi.b; have := hi.c
  omega
theorem Ins.refl {s : Sp} (h : spN s = false) : Ins s s := by
  rw [spN_eq] at h
  simp only [Bool.not_eq_false', decide_eq_true_eq] at h
  exact ⟨Int.le_refl _, h.2.1, Int.le_refl _⟩
theorem ca_part {c : Cr} {a a' : Ai} (f : CaF c a) (hi : AiIn a' a) : CaF c a' where
  rot := f.rot
  int := f.int
  l0 := f.l0
  r0 := f.r0
  w := spN_part f.w hi.w
  t := spN_part f.t hi.t
  h := hi.h ▸ f.h
  v := hi.v ▸ f.v
  px := lie_le f.px hi.t.a hi.t.c
  py := hi.h ▸ f.py
  ly := lie_le f.ly hi.w.a hi.w.c
  ry := lie_le f.ry hi.w.a hi.w.c
theorem caE_of {c : Cr} {a : Ai} (f : CaF c a) : caE c a = 0 := by
  have h1 : ccE c = 0 := by simp [ccE, f.rot, f.int, f.l0, f.r0]
  have h2 : airE (caM c a) = 0 := by
    unfold airE
    rw [if_pos (show rotB (caM c a).r = true from f.rot), if_neg (by rw [show (caM c a).a = a from rfl, air_any f]; simp)]
  have h3 : liB4 c a = true := by simp [liB4, f.px, f.py, f.ly, f.ry]
  rw [caE, if_pos h1, if_pos h2, if_pos h3]
theorem bnd_in {d d' : BdD} (h : bdErr d = 0) (h' : bdErr d' = 0) (ht : d'.t = d.t) (a0 : d.a.lo ≤ d'.a.lo) (a1 : d'.a.hi ≤ d.a.hi) (b0 : d.b.lo ≤ d'.b.lo) (b1 : d'.b.hi ≤ d.b.hi) : (bndF d).lo ≤ (bndF d').lo ∧ (bndF d').hi ≤ (bndF d).hi := by
  rw [bndF, if_pos h, bndF, if_pos h']
  exact bound_in h h' ht a0 a1 b0 b1
theorem pow_part {c : Cr} {a a' : Ai} (f : CaF c a) (hi : AiIn a' a) : (bndF (powD (caM c a))).lo ≤ (bndF (powD (caM c a'))).lo ∧ (bndF (powD (caM c a'))).hi ≤ (bndF (powD (caM c a))).hi := by
  refine bnd_in (bd_pow f) (bd_pow (ca_part f hi)) rfl hi.t.a hi.t.c ?_ ?_
  · show a.h.lo ≤ a'.h.lo; rw [hi.h]; exact Int.le_refl _
  · show a'.h.hi ≤ a.h.hi; rw [hi.h]; exact Int.le_refl _
theorem rt_part {c : Cr} {a a' : Ai} (f : CaF c a) (hi : AiIn a' a) (e : Nat) {v : Nat} (hv : (v : Int) ≤ c.top) : rt c a e v ≤ rt c a' e v := by
  have f' := ca_part f hi
  have d := den_b f
  have hl := bnd_in (bd_lev f hv) (bd_lev f' hv) rfl (Int.le_refl _) (Int.le_refl _) hi.w.a hi.w.c
  have hp := pow_part f hi
  have o := (crI_b f.int).1
  have hh : (hfS c a).lo ≤ (hfS c a').lo := by
    rw [(half_lo f).1, (half_lo f').1]
    exact Int.ediv_le_ediv (by omega) (Int.mul_le_mul_of_nonneg_right hp.1 (by omega))
  have hw : pwN c a e ≤ pwN c a' e := by
    unfold pwN
    split
    · exact hp.1
    · exact hh
  unfold rt
  exact Int.ediv_le_ediv (by omega) (by omega)
theorem wk_part {c : Cr} {a a' : Ai} (f : CaF c a) (hi : AiIn a' a) {v d : Nat} (hv : (v : Int) ≤ c.top) (h : wkv c a' v d = true) : wkv c a v d = true := by
  unfold wkv at *
  split at h
  case isFalse => cases h
  rename_i h1
  rw [if_pos h1]
  have f' := ca_part f hi
  have k1 := bnd_in (bd_rng f hv h1.2) (bd_rng f' hv h1.2) rfl (Int.le_refl _) (Int.le_refl _) hi.w.a hi.w.c
  have k2 := bnd_in (bd_rgH f hv h1.2) (bd_rgH f' hv h1.2) rfl (Int.le_refl _) (Int.le_refl _) hi.w.a hi.w.c
  unfold wkB at *
  simp only [Bool.and_eq_true, decide_eq_true_eq] at *
  omega
end Go.Sx.Rot
