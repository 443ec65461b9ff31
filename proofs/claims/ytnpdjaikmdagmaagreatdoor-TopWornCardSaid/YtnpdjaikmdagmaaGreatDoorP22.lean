/- A part of a proof; no conditions. -/
import Derived.Test.YtnpdjaikmdagmaaGreatDoorP21
import Derived.Test.YtnpdjaikmdagmaaGreatDoorP20
import Derived.Test.YtnpdjaikmdagmaaGreatDoorP16
import Derived.Test.YtnpdjaikmdagmaaGreatDoorP10
set_option linter.unusedSimpArgs false
set_option linter.unusedVariables false
set_option linter.unusedSectionVars false
section
/- Parts: what all parts have flown in a place is what the machine has flown. No conditions. -/
set_option linter.unusedSimpArgs false
set_option linter.unusedSectionVars false
namespace Go.Sx

theorem lackK_nil {x : HI} {m : Int} {k : Nat} : ∀ {J}, x.lackK m k J = [] → ∀ j, j < J → x.emp m k j = false
  | 0, _, j, hj => by omega
  | J + 1, h, j, hj => by
    simp only [HI.lackK] at h
    split at h
    · simp at h
    · rename_i he
      by_cases e : j = J
      · subst e; simpa using he
      · exact lackK_nil h j (by omega)
theorem lackTo_nil {x : HI} {m : Int} : ∀ {K}, x.lackTo m K = [] → ∀ k, k < K → x.lackK m k (x.places k) = []
  | 0, _, k, hk => by omega
  | K + 1, h, k, hk => by
    simp only [HI.lackTo, List.append_eq_nil_iff] at h
    by_cases e : k = K
    · subst e; exact h.2
    · exact lackTo_nil h.1 k (by omega)
theorem lacks_at {x : HI} {m : Int} (h : x.lacks m = []) {k pl : Nat} (hk : k < x.r.kinds.length) (hp : pl < x.places k) : ∃ p, p < x.ps.length ∧ (x.ps.getD p default).kind = (k : Int) ∧ (x.ps.getD p default).a = m ∧ (x.ps.getD p default).b = (pl : Int) := by
  have h1 := lackK_nil (lackTo_nil h k hk) pl hp
  have h2 := idxZ_any x.ps (atIs k m pl)
  have h3 : ¬ x.at k m pl < 0 := by simpa [HI.emp] using h1
  have h4 : x.at k m pl = idxZ x.ps (atIs k m pl) := rfl
  have h5 : decide (0 ≤ idxZ x.ps (atIs k m pl)) = true := decide_eq_true (by omega)
  rw [h5] at h2
  obtain ⟨q, hq, hi⟩ := List.any_eq_true.1 h2.symm
  obtain ⟨p, hpl, rfl⟩ := List.getElem_of_mem hq
  have hg : x.ps.getD p default = x.ps[p] := by simp [List.getD, hpl]
  simp [atIs] at hi
  refine ⟨p, hpl, ?_, ?_, ?_⟩ <;> rw [hg] <;> omega
theorem ssum_one {f g : Nat → Int × Int} {d : Int × Int} {p0 : Nat} (he : f p0 = ((g p0).1 + d.1, (g p0).2 + d.2)) : ∀ {P}, (∀ p, p < P → p ≠ p0 → f p = g p) → ssum f (List.range P) = if p0 < P then ((ssum g (List.range P)).1 + d.1, (ssum g (List.range P)).2 + d.2) else ssum g (List.range P)
  | 0, _ => by simp [ssum]
  | P + 1, h => by
    have ih := ssum_one he (P := P) fun p hp => h p (by omega)
    rw [List.range_succ, ssum_app, ssum_app, ih]
    by_cases e : p0 = P
    · subst e
      rw [if_neg (by omega), if_pos (by omega)]
      simp only [ssum, he, Prod.mk.injEq]
      omega
    · have e2 := h P (by omega) (fun hh => e hh.symm)
      by_cases hlt : p0 < P
      · rw [if_pos hlt, if_pos (by omega)]
        simp only [ssum, e2, Prod.mk.injEq]
        omega
      · rw [if_neg hlt, if_neg (by omega)]
        simp only [ssum, e2]
section pl
variable (l : List Wk) (m pl : Int)
def plV (p n i : Nat) : Int × Int := if (wkAt l i).b = m ∧ (wkAt l i).c = pl then stV l p n i else (0, 0)
def plS (p n : Nat) : Int × Int := ssum (plV l m pl p n) (fs l p n)
def totK (r : Reg) (k : Nat) (n : Nat) : Int × Int := ssum (fun p => if (r.parts.getD p default).kind = (k : Int) then plS l m pl p n else (0, 0)) (List.range r.parts.length)
end pl
section pl
variable {l : List Wk} {m pl : Int} {p n : Nat}
theorem plV_same {i : Nat} (hi : i < n) (h : (wkAt l i).b = m → (wkAt l i).c = pl → toN l p i n = n → (wkAt l n).takes p = false → fl1 l m n = (0, 0)) : plV l m pl p (n + 1) i = plV l m pl p n i := by
  unfold plV
  by_cases hp : (wkAt l i).b = m ∧ (wkAt l i).c = pl
  · rw [if_pos hp, if_pos hp, stV_next hi]
    split
    · rename_i ho
      rw [hp.1, h hp.1 hp.2 ho.1 ho.2]
      simp
    · rfl
  · rw [if_neg hp, if_neg hp]
theorem plS_other (hw : ¬ ((wkAt l n).kind = 1 ∧ (wkAt l n).a = m)) : plS l m pl p (n + 1) = plS l m pl p n := by
  have hf : fl1 l m n = (0, 0) := by unfold fl1; rw [if_neg hw]
  have hold : ssum (plV l m pl p (n + 1)) (fs l p n) = ssum (plV l m pl p n) (fs l p n) := ssum_congr fun i hi => plV_same (fs_lt hi).1 fun _ _ _ _ => hf
  unfold plS
  cases hfi : (wkAt l n).fits p
  · rw [fs_no hfi, hold]
  · have hnew : plV l m pl p (n + 1) n = (0, 0) := by
      unfold plV
      split
      · exact stV_new (by have := (fits_kind hfi).1; omega)
      · rfl
    rw [fs_yes hfi, ssum_app, hold]
    simp [ssum, hnew]
theorem plS_closed (hfi : (wkAt l n).fits p = false) (h : ∀ i ∈ fs l p n, (wkAt l i).b = m → (wkAt l i).c = pl → toN l p i n < n) : plS l m pl p (n + 1) = plS l m pl p n := by
  unfold plS
  rw [fs_no hfi]
  exact ssum_congr fun i hi => plV_same (fs_lt hi).1 fun h1 h2 h3 _ => by have := h i hi h1 h2; omega
theorem plS_open {pre : List Nat} {i : Nat} (hw : (wkAt l n).kind = 1) (ha : (wkAt l n).a = m) (he : fs l p n = pre ++ [i]) (ho : toN l p i n = n) (hb : (wkAt l i).b = m) (hc : (wkAt l i).c = pl) (hpre : ∀ j ∈ pre, toN l p j n < n) :
    plS l m pl p (n + 1) = ((plS l m pl p n).1 + (wkAt l n).b, (plS l m pl p n).2 + (wkAt l n).c) := by
  have hfi : (wkAt l n).fits p = false := by simp [Wk.fits, hw]
  have hta : (wkAt l n).takes p = false := by simp [Wk.takes, hw]
  have hm : ∀ j ∈ pre ++ [i], j < n := fun j hj => (fs_lt (l := l) (p := p) (by rw [he]; exact hj)).1
  have hold : ssum (plV l m pl p (n + 1)) pre = ssum (plV l m pl p n) pre := ssum_congr fun j hj => plV_same (hm j (by simp [hj])) fun _ _ h3 _ => by have := hpre j hj; omega
  have hf : fl1 l m n = ((wkAt l n).b, (wkAt l n).c) := by unfold fl1; rw [if_pos ⟨hw, ha⟩]
  have hnew : plV l m pl p (n + 1) i = ((plV l m pl p n i).1 + (wkAt l n).b, (plV l m pl p n i).2 + (wkAt l n).c) := by
    unfold plV
    rw [if_pos ⟨hb, hc⟩, if_pos ⟨hb, hc⟩, stV_next (hm i (by simp)), if_pos ⟨ho, hta⟩, hb, hf]
  unfold plS
  rw [fs_no hfi, he, ssum_app, ssum_app, hold]
  simp only [ssum, hnew, Prod.mk.injEq]
  omega
end pl
theorem tot_step {s : HG} {r : Reg} {n : Nat} {l : List Wk} (hI : s.Inv r n) (h : His r l n s) (hw : s.doOk (wkAt l n) = true) {k m pl : Nat} (hk : k < r.kinds.length) (hpl : (pl : Int) < (r.kinds.getD k default).places)
    (ih : totK l m pl r k n = sumF l m 0 n) : totK l m pl r k (n + 1) = sumF l m 0 (n + 1) := by
  rw [sumF_next _ (Nat.zero_le _), ← ih]
  by_cases hf : (wkAt l n).kind = 1 ∧ (wkAt l n).a = (m : Int)
  · obtain ⟨k1, ka⟩ := hf
    obtain ⟨_, _, _, _, _, hlk⟩ := fly_facts hI hw k1
    rw [ka] at hlk
    have hir : s.i.r = r := hI.rg
    obtain ⟨p0, g1, g2, g3, g4⟩ := lacks_at hlk (k := k) (pl := pl) (by rw [hir]; exact hk) (by unfold HI.places; rw [hir]; omega)
    have g1' : p0 < s.ps.length := g1
    have hp0 : p0 < r.parts.length := by rw [← hI.psl]; exact g1'
    have e0 : s.ps[p0]? = some (s.ps.getD p0 default) := by simp [List.getD, g1']
    have hk0 : (r.parts.getD p0 default).kind = (k : Int) := by rw [← (hI.pk _ _ e0).1]; exact g2
    obtain ⟨pre, i0, o1, o2, o3, o4, o5⟩ := h.op p0 hp0 (by rw [show (s.ps.getD p0 default).a = (m : Int) from g3]; omega)
    have hb0 : (wkAt l i0).b = (m : Int) := by rw [← o3]; exact g3
    have hc0 : (wkAt l i0).c = (pl : Int) := by rw [← o4]; exact g4
    have hfl : fl1 l m n = ((wkAt l n).b, (wkAt l n).c) := by unfold fl1; rw [if_pos ⟨k1, ka⟩]
    have hi0 : i0 ∈ fs l p0 n := by rw [o1]; simp
    rw [hfl]
    unfold totK
    have key := ssum_one (p0 := p0) (f := fun p => if (r.parts.getD p default).kind = (k : Int) then plS l m pl p (n + 1) else (0, 0)) (g := fun p => if (r.parts.getD p default).kind = (k : Int) then plS l m pl p n else (0, 0)) (d := ((wkAt l n).b, (wkAt l n).c))
      (by simp only [if_pos hk0]; exact plS_open k1 ka o1 o2 hb0 hc0 o5) (P := r.parts.length) (by
        intro p hp hne
        by_cases hkp : (r.parts.getD p default).kind = (k : Int)
        · simp only [if_pos hkp]
          refine plS_closed (by simp [Wk.fits, k1]) fun i hi hb hc => ?_
          have hin := (fs_lt hi).1
          have hin0 := (fs_lt hi0).1
          rcases h.meet p p0 hp hp0 hne (by rw [hkp, hk0]) i hi i0 hi0 (by rw [hb, hb0]) (by rw [hc, hc0]) with x | x
          · omega
          · omega
        · simp only [if_neg hkp])
    rw [key, if_pos hp0]
  · have hfl : fl1 l m n = (0, 0) := by unfold fl1; rw [if_neg hf]
    rw [hfl]
    unfold totK
    have : ssum (fun p => if (r.parts.getD p default).kind = (k : Int) then plS l m pl p (n + 1) else (0, 0)) (List.range r.parts.length) = ssum (fun p => if (r.parts.getD p default).kind = (k : Int) then plS l m pl p n else (0, 0)) (List.range r.parts.length) :=
      ssum_congr fun p _ => by rw [plS_other hf]
    rw [this]; simp
theorem ssum_zero {f : Nat → Int × Int} : ∀ {L : List Nat}, (∀ i ∈ L, f i = (0, 0)) → ssum f L = (0, 0)
  | [], _ => rfl
  | i :: r, h => by
    simp only [ssum]
    rw [h i (by simp), ssum_zero fun j hj => h j (by simp [hj])]
    rfl
theorem stT_tot {r : Reg} {l : List Wk} (hv : r.valid = true) {k m pl : Nat} (hk : k < r.kinds.length) (hpl : (pl : Int) < (r.kinds.getD k default).places) : ∀ n : Nat, n ≤ 1000 → (∀ j, j < n → okAt r l j = true) → totK l m pl r k n = sumF l m 0 n
  | 0, _, _ => by
    unfold totK
    rw [ssum_zero]
    · rfl
    · intro p _
      split <;> rfl
  | n + 1, hn, h => tot_step (stT_inv hv n (by omega) fun j hj => h j (by omega)) (stT_his hv n (by omega) fun j hj => h j (by omega)) (h n (by omega)) hk hpl (stT_tot hv hk hpl n (by omega) fun j hj => h j (by omega))
theorem opE_tot {r : Reg} {l : List Wk} (h : opE r l = 0) {k m pl : Nat} (hk : k < r.kinds.length) (hpl : (pl : Int) < (r.kinds.getD k default).places) : totK l m pl r k l.length = sumF l m 0 l.length := by
  obtain ⟨h1, h2, h3, _⟩ := opE_inv h
  exact stT_tot h1 hk hpl _ (by omega) h3

/-! sums over lists of stretches -/
/-- The hours and the cycles of the first stretches. -/
def accH (X : List Stt) : Nat → Int × Int
  | 0 => (0, 0)
  | j + 1 => ((accH X j).1 + (X.getD j default).hours, (accH X j).2 + (X.getD j default).cycles)
/-- The hours at a place, of the first stretches. -/
def sumH (m pl : Int) (X : List Stt) : Nat → Int
  | 0 => 0
  | j + 1 => sumH m pl X j + if (X.getD j default).machine = m ∧ (X.getD j default).place = pl then (X.getD j default).hours else 0
theorem accH_map (f : Nat → Stt) : ∀ (L : List Nat) (pre : List Nat), accH ((pre ++ L).map f) (pre ++ L).length = ((accH ((pre ++ L).map f) pre.length).1 + (ssum (fun i => ((f i).hours, (f i).cycles)) L).1, (accH ((pre ++ L).map f) pre.length).2 + (ssum (fun i => ((f i).hours, (f i).cycles)) L).2)
  | [], pre => by simp [ssum]
  | i :: L, pre => by
    have ih := accH_map f L (pre ++ [i])
    have e : pre ++ [i] ++ L = pre ++ i :: L := by simp
    rw [e] at ih
    rw [ih]
    have e2 : (pre ++ [i]).length = pre.length + 1 := by simp
    have e3 : ((pre ++ i :: L).map f).getD pre.length default = f i := by simp [List.getD]
    rw [e2]
    simp only [accH, e3, ssum, Prod.mk.injEq]
    omega
theorem accH_all (f : Nat → Stt) (L : List Nat) : accH (L.map f) L.length = ssum (fun i => ((f i).hours, (f i).cycles)) L := by
  have := accH_map f L []
  simp only [List.nil_append, List.length_nil, accH] at this
  rw [this]; simp
theorem sumH_map (m pl : Int) (f : Nat → Stt) : ∀ (L : List Nat) (pre : List Nat), sumH m pl ((pre ++ L).map f) (pre ++ L).length = sumH m pl ((pre ++ L).map f) pre.length + (ssum (fun i => if (f i).machine = m ∧ (f i).place = pl then ((f i).hours, (f i).cycles) else (0, 0)) L).1
  | [], pre => by simp [ssum]
  | i :: L, pre => by
    have ih := sumH_map m pl f L (pre ++ [i])
    have e : pre ++ [i] ++ L = pre ++ i :: L := by simp
    rw [e] at ih
    rw [ih]
    have e2 : (pre ++ [i]).length = pre.length + 1 := by simp
    have e3 : ((pre ++ i :: L).map f).getD pre.length default = f i := by simp [List.getD]
    rw [e2]
    simp only [sumH, e3, ssum]
    split <;> simp only [] <;> omega
theorem sumH_all (m pl : Int) (f : Nat → Stt) (L : List Nat) : sumH m pl (L.map f) L.length = (ssum (fun i => if (f i).machine = m ∧ (f i).place = pl then ((f i).hours, (f i).cycles) else (0, 0)) L).1 := by
  have := sumH_map m pl f L []
  simp only [List.nil_append, List.length_nil, sumH] at this
  rw [this]; simp
/-- What holds of a stretch of a history. -/
structure SttP (X : List Stt) (n j : Nat) (x : Stt) : Prop where
  f0 : 0 ≤ x.fro
  ft : x.fro < x.to
  tn : x.to ≤ n
  nx : ∀ y, X[j - 1]? = some y → 0 < j → y.to < x.fro
  h0 : 0 ≤ x.hours
  h1 : x.hours ≤ 20000
  c0 : 0 ≤ x.cycles
  c1 : x.cycles ≤ 20000
theorem refH_get {l : List Wk} {p n j : Nat} {x : Stt} (h : (refH l p n)[j]? = some x) : ∃ i, (fs l p n)[j]? = some i ∧ x = stF l p n i := by
  unfold refH at h
  rw [List.getElem?_map] at h
  cases hf : (fs l p n)[j]? with
  | none => rw [hf] at h; cases h
  | some i => rw [hf] at h; exact ⟨i, rfl, (Option.some.inj h).symm⟩
theorem refH_sttP {r : Reg} {l : List Wk} (h : opE r l = 0) {p : Nat} (hp : p < r.parts.length) {j : Nat} {x : Stt} (hx : (refH l p l.length)[j]? = some x) : SttP (refH l p l.length) l.length j x := by
  have hH := opE_his h
  obtain ⟨i, hi, rfl⟩ := refH_get hx
  have him := List.mem_of_getElem? hi
  have hin := (fs_lt him).1
  have hb := opE_flb h (toN_le (l := l) (p := p) i l.length) (wkAt l i).b i
  refine ⟨by show (0 : Int) ≤ (i : Nat); omega, by show (i : Int) < (toN l p i l.length : Nat); have := toN_gt (l := l) (p := p) hin; omega, by show (toN l p i l.length : Int) ≤ _; have := toN_le (l := l) (p := p) i l.length; omega, fun y hy hj => ?_, hb.1, hb.2.1, hb.2.2.1, hb.2.2.2⟩
  obtain ⟨i', hi', rfl⟩ := refH_get hy
  have hlt : i' < i := by
    obtain ⟨h1, e1⟩ := List.getElem?_eq_some_iff.1 hi'
    obtain ⟨h2, e2⟩ := List.getElem?_eq_some_iff.1 hi
    have := List.pairwise_iff_getElem.1 (fs_asc (l := l) (p := p) l.length) (j - 1) j h1 h2 (by omega)
    rw [e1, e2] at this
    exact this
  have := hH.ord p hp i him i' (List.mem_of_getElem? hi') hlt
  show (toN l p i' l.length : Int) < (i : Nat)
  omega
/-- Two histories that are in one place at a time. -/
def meets (x y : Stt) : Bool := (x.machine == y.machine && x.place == y.place) && (decide (x.fro < y.to) && decide (y.fro < x.to))
def meetF (a b : List Stt) : Bool := a.any fun x => b.any (meets x)
theorem refH_meet {r : Reg} {l : List Wk} (h : opE r l = 0) {p q : Nat} (hp : p < r.parts.length) (hq : q < r.parts.length) (hne : p ≠ q) (hk : (r.parts.getD p default).kind = (r.parts.getD q default).kind) : meetF (refH l p l.length) (refH l q l.length) = false := by
  have hH := opE_his h
  unfold meetF
  rw [List.any_eq_false]
  intro x hx
  rw [Bool.not_eq_true, List.any_eq_false]
  intro y hy
  obtain ⟨i, hi, rfl⟩ := List.mem_map.1 hx
  obtain ⟨j, hj, rfl⟩ := List.mem_map.1 hy
  intro hm
  simp only [meets, Bool.and_eq_true, beq_iff_eq, decide_eq_true_eq] at hm
  obtain ⟨⟨m1, m2⟩, m3, m4⟩ := hm
  have m3' : (i : Int) < (toN l q j l.length : Nat) := m3
  have m4' : (j : Int) < (toN l p i l.length : Nat) := m4
  rcases hH.meet p q hp hq hne hk i hi j hj m1 m2 with x | x
  · omega
  · omega
theorem acc_used {r : Reg} {l : List Wk} (h : opE r l = 0) {p : Nat} (hp : p < r.parts.length) : ((opH r l).ps.getD p default).hours = (r.parts.getD p default).hours + (accH (refH l p l.length) (refH l p l.length).length).1 ∧ ((opH r l).ps.getD p default).cycles = (r.parts.getD p default).cycles + (accH (refH l p l.length) (refH l p l.length).length).2 := by
  have hH := opE_his h
  have e : accH (refH l p l.length) (refH l p l.length).length = ssum (stV l p l.length) (fs l p l.length) := by
    have := accH_all (stF l p l.length) (fs l p l.length)
    unfold refH
    rw [List.length_map, this]
    rfl
  rw [e]
  exact hH.us p hp
/-- The hours of the first parts of a kind at a place. -/
def sumP (r : Reg) (l : List Wk) (k m pl : Nat) : Nat → Int
  | 0 => 0
  | p + 1 => sumP r l k m pl p + if (r.parts.getD p default).kind = (k : Int) then sumH m pl (refH l p l.length) (refH l p l.length).length else 0
theorem sumP_eq (r : Reg) (l : List Wk) (k m pl : Nat) : ∀ P, sumP r l k m pl P = (ssum (fun p => if (r.parts.getD p default).kind = (k : Int) then plS l m pl p l.length else (0, 0)) (List.range P)).1
  | 0 => rfl
  | P + 1 => by
    rw [sumP, sumP_eq r l k m pl P, List.range_succ, ssum_app]
    simp only [ssum]
    have e : sumH m pl (refH l P l.length) (refH l P l.length).length = (plS l m pl P l.length).1 := by
      have := sumH_all m pl (stF l P l.length) (fs l P l.length)
      unfold refH
      rw [List.length_map, this]
      rfl
    rw [e]
    split <;> simp
theorem opE_sumP {r : Reg} {l : List Wk} (h : opE r l = 0) {k m pl : Nat} (hk : k < r.kinds.length) (hpl : (pl : Int) < (r.kinds.getD k default).places) : sumP r l k m pl r.parts.length = (sumF l m 0 l.length).1 := by
  rw [sumP_eq, ← opE_tot h hk hpl]; rfl
theorem sumH_bd (m pl : Int) (X : List Stt) (hX : ∀ (j : Nat) (x : Stt), X[j]? = some x → 0 ≤ x.hours ∧ x.hours ≤ 20000) : ∀ j, j ≤ X.length → 0 ≤ sumH m pl X j ∧ sumH m pl X j ≤ 20000 * j
  | 0, _ => by simp [sumH]
  | j + 1, h => by
    have ih := sumH_bd m pl X hX j (by omega)
    have hj : j < X.length := by omega
    have e : X[j]? = some (X.getD j default) := by simp [List.getD, hj]
    have := hX j _ e
    simp only [sumH]
    split <;> omega
theorem sumP_bd {r : Reg} {l : List Wk} (h : opE r l = 0) (hl : l.length ≤ 200) (k m pl : Nat) : ∀ P, P ≤ r.parts.length → 0 ≤ sumP r l k m pl P ∧ sumP r l k m pl P ≤ 4000000 * P
  | 0, _ => by simp [sumP]
  | P + 1, hP => by
    have ih := sumP_bd h hl k m pl P (by omega)
    have hb := sumH_bd m pl (refH l P l.length) (fun j x hx => by have := refH_sttP h (by omega) hx; exact ⟨this.h0, this.h1⟩) (refH l P l.length).length (Nat.le_refl _)
    have := refH_len l P l.length
    simp only [sumP]
    split <;> omega
end Go.Sx
end
section
/- The part that the law's `is` names (plain). No conditions. -/
set_option linter.unusedSimpArgs false
namespace Go.Sx
def isAt (r : Reg) (W : List (Int × Int)) (m : Int) (q : Int × Int) (i : Nat) : Bool := W.getD i (0, 0) == (m, q.2) && (r.parts.getD i default).kind == q.1
def isTo (r : Reg) (W : List (Int × Int)) (m : Int) (q : Int × Int) : Nat → Int
  | 0 => -1
  | k + 1 => if isAt r W m q k then (k : Nat) else isTo r W m q k
theorem isTo_none {r : Reg} {W : List (Int × Int)} {m : Int} {q : Int × Int} : ∀ {n : Nat}, (∀ i, i < n → isAt r W m q i = false) → isTo r W m q n = -1
  | 0, _ => rfl
  | n + 1, h => by
    have h1 := h n (by omega)
    simp only [isTo, h1]
    simpa using isTo_none fun i hi => h i (by omega)
theorem isTo_one {r : Reg} {W : List (Int × Int)} {m : Int} {q : Int × Int} {p : Nat} (hp : isAt r W m q p = true) : ∀ {n : Nat}, p < n → (∀ i, i < n → i ≠ p → isAt r W m q i = false) → isTo r W m q n = p
  | 0, h, _ => by omega
  | n + 1, h, hn => by
    by_cases e : n = p
    · subst e; simp [isTo, hp]
    · have h1 := hn n (by omega) e
      simp only [isTo, h1]
      simpa using isTo_one hp (by omega) fun i hi hne => hn i (by omega) hne
theorem isTo_lt {r : Reg} {W : List (Int × Int)} {m : Int} {q : Int × Int} : ∀ (n : Nat), isTo r W m q n = -1 ∨ ∃ p : Nat, p < n ∧ isTo r W m q n = p ∧ isAt r W m q p = true
  | 0 => .inl rfl
  | n + 1 => by
    cases h : isAt r W m q n
    · simp only [isTo, h]
      rcases isTo_lt (r := r) (W := W) (m := m) (q := q) n with x | ⟨p, hp, hx, ha⟩
      · left; simpa using x
      · right; exact ⟨p, by omega, by simpa using hx, ha⟩
    · right; exact ⟨n, by omega, by simp [isTo, h], h⟩
theorem suSet_nil : suSet [] = [] := by simp [suSet, srtZ, cpTo]
theorem suSet_one (x : Int) : suSet [x] = [x] := by simp [suSet, srtZ, cpTo]
theorem suEr_inv {r : Reg} {l : List Wk} {m : Int} {pl ch : List (Int × Int)} (h : suEr r l m pl ch = 0) : opE r l = 0 ∧ (opH r l).i.suBad m pl = false ∧ (explR 8 pl.length ch).2.2 = 0 := by
  unfold suEr at h
  split at h
  · rename_i h1
    split at h
    · omega
    · rename_i h2
      split at h
      · rename_i h3; exact ⟨h1, by simpa using h2, h3⟩
      · omega
  · exact absurd h (by assumption)
/-- Two parts of a kind are never in one place of a machine. -/
theorem at_one {r : Reg} {l : List Wk} (h : opE r l = 0) {p q : Nat} (hp : p < r.parts.length) (hq : q < r.parts.length) (hne : p ≠ q) (hk : (r.parts.getD p default).kind = (r.parts.getD q default).kind)
    (ha : 0 ≤ ((opH r l).ps.getD p default).a) (e1 : ((opH r l).ps.getD q default).a = ((opH r l).ps.getD p default).a) (e2 : ((opH r l).ps.getD q default).b = ((opH r l).ps.getD p default).b) : False := by
  have hH := opE_his h
  obtain ⟨pre, i, hf, ht, b1, b2, _⟩ := hH.op p hp ha
  obtain ⟨pre', j, hf', ht', c1, c2, _⟩ := hH.op q hq (by omega)
  have hi : i ∈ fs l p l.length := by rw [hf]; simp
  have hj : j ∈ fs l q l.length := by rw [hf']; simp
  have hi2 := (fs_lt hi).1
  have hj2 := (fs_lt hj).1
  rcases hH.meet p q hp hq hne hk i hi j hj (by omega) (by omega) with x | x <;> omega
theorem at_is {r : Reg} {l : List Wk} (h : opE r l = 0) {m : Int} (hm : 0 ≤ m) (q : Int × Int) : (opH r l).i.at q.1 m q.2 = isTo r (eaR r l false) m q r.parts.length := by
  have hI := (opE_inv h).2.2.2
  have hps : (opH r l).i.ps = (opH r l).ps := rfl
  have hlen : (opH r l).ps.length = r.parts.length := hI.psl
  have hW : eaR r l false = (opH r l).ps.map (eaP false) := by simp [eaR, h]
  have hA : ∀ i (hi : i < (opH r l).ps.length), atIs q.1 m q.2 (opH r l).ps[i] = isAt r (eaR r l false) m q i := by
    intro i hi
    have hk := (hI.pk i _ (List.getElem?_eq_getElem hi)).1
    have hw : (eaR r l false).getD i (0, 0) = ((opH r l).ps[i].a, (opH r l).ps[i].b) := by
      rw [hW]; simp [List.getD, hi, eaP]
    simp only [atIs, isAt, hw, hk]
    have : (((opH r l).ps[i].a, (opH r l).ps[i].b) == (m, q.2)) = ((opH r l).ps[i].a == m && (opH r l).ps[i].b == q.2) := rfl
    rw [this, Bool.and_comm]
  by_cases hx : ∃ p, p < r.parts.length ∧ isAt r (eaR r l false) m q p = true
  · obtain ⟨p, hp, hpa⟩ := hx
    have hp' : p < (opH r l).ps.length := by omega
    have hu : ∀ i, i < r.parts.length → i ≠ p → isAt r (eaR r l false) m q i = false := by
      intro i hi hne
      cases hc : isAt r (eaR r l false) m q i
      · rfl
      · exfalso
        have hi' : i < (opH r l).ps.length := by omega
        have g1 := hA p hp'; rw [hpa] at g1
        have g2 := hA i hi'; rw [hc] at g2
        simp only [atIs, Bool.and_eq_true, beq_iff_eq] at g1 g2
        have k1 := (hI.pk p _ (List.getElem?_eq_getElem hp')).1
        have k2 := (hI.pk i _ (List.getElem?_eq_getElem hi')).1
        have d1 : (opH r l).ps.getD p default = (opH r l).ps[p] := by simp [List.getD, hp']
        have d2 : (opH r l).ps.getD i default = (opH r l).ps[i] := by simp [List.getD, hi']
        refine at_one h hp hi (fun e => hne e.symm) (by rw [← k1, ← k2, g1.1, g2.1]) ?_ ?_ ?_
        · rw [d1, g1.2.1]; exact hm
        · rw [d1, d2, g1.2.1, g2.2.1]
        · rw [d1, d2, g1.2.2, g2.2.2]
    rw [isTo_one hpa hp hu]
    show idxZ (opH r l).ps _ = _
    exact idxZ_at _ _ hp' (by rw [hA p hp', hpa]) fun j hj hlt => by rw [hA j hj]; exact hu j (by omega) (by omega)
  · have hn : ∀ i, i < r.parts.length → isAt r (eaR r l false) m q i = false := by
      intro i hi
      cases hc : isAt r (eaR r l false) m q i
      · rfl
      · exact absurd ⟨i, hi, hc⟩ hx
    rw [isTo_none hn]
    show idxZ (opH r l).ps _ = _
    exact idxZ_none _ _ fun j hj => by rw [hA j hj]; exact hn j (by omega)
theorem sus_is {r : Reg} {l : List Wk} {m : Int} {pl ch : List (Int × Int)} {c : Int} (h : suEr r l m pl ch = 0) (h2 : 2 ≤ ch.length) (hc : ∀ x ∈ ch, x.2 = c) :
    0 ≤ c ∧ c < pl.length ∧ 0 ≤ m ∧ suRe r l m pl ch = if isTo r (eaR r l false) m (pl.getD c.toNat (0, 0)) r.parts.length < 0 then [] else [isTo r (eaR r l false) m (pl.getD c.toNat (0, 0)) r.parts.length] := by
  obtain ⟨hE, hB, hX⟩ := suEr_inv h
  have hok := expl_ok (S := 8) (G := pl.length) hX
  have hone := one_gear (S := 8) (G := pl.length) hok h2 hc
  have hg := expl_worn (S := 8) (G := pl.length) (cells := ch) c (by rw [hone]; simp)
  have hm : 0 ≤ m := by
    simp only [HI.suBad, Bool.or_eq_false_iff, Bool.not_eq_false', HI.machine, withinB, decide_eq_true_eq] at hB
    exact hB.1.1
  refine ⟨hg.1, hg.2, hm, ?_⟩
  have hone' : (explR 8 pl.length ch).2.1 = [c] := by
    have := hone
    rw [show ((8 : Nat) : Int) = 8 from rfl] at this
    rw [this]
  unfold suRe
  rw [if_pos h, hone']
  simp only [HI.suOut, List.map_cons, List.map_nil, at_is hE hm]
  generalize isTo r (eaR r l false) m (pl.getD c.toNat (0, 0)) r.parts.length = I
  by_cases hn : I < 0
  · have : ¬ 0 ≤ I := by omega
    simp [this, hn, suSet_nil]
  · have : 0 ≤ I := by omega
    simp [this, hn, suSet_one]
/-- The last stretch of a part that is at a machine. -/
theorem last_is {r : Reg} {l : List Wk} {m : Int} {q : Int × Int} {p : Nat} (h : opE r l = 0) (hp : p < r.parts.length) (hm : 0 ≤ m) (ha : isAt r (eaR r l false) m q p = true) :
    ∃ k x, (refH l p l.length).length = k + 1 ∧ (refH l p l.length)[k]? = some x ∧ x.machine = m ∧ x.to = l.length := by
  have hI := (opE_inv h).2.2.2
  have hp' : p < (opH r l).ps.length := by rw [hI.psl]; exact hp
  have hw : (eaR r l false).getD p (0, 0) = ((opH r l).ps[p].a, (opH r l).ps[p].b) := by
    simp [eaR, h, List.getD, hp', eaP]
  simp only [isAt, hw, Bool.and_eq_true, beq_iff_eq, Prod.mk.injEq] at ha
  have d1 : (opH r l).ps.getD p default = (opH r l).ps[p] := by simp [List.getD, hp']
  obtain ⟨pre, i, hf, ht, b1, _, _⟩ := (opE_his h).op p hp (by rw [d1, ha.1.1]; exact hm)
  refine ⟨pre.length, stF l p l.length i, ?_, ?_, ?_, ?_⟩
  · simp [refH, hf]
  · simp [refH, hf]
  · show (wkAt l i).b = m
    rw [← b1, d1, ha.1.1]
  · show ((toN l p i l.length : Nat) : Int) = _
    rw [ht]
end Go.Sx
end
section
/- Parts: a hangar behind all works, as an object that can be written. No conditions. -/
set_option linter.unusedSimpArgs false
set_option linter.unusedSectionVars false
set_option maxRecDepth 100000
set_option maxHeartbeats 4000000
namespace Go.Sx
open Go.Proofs
attribute [local irreducible] HLe
attribute [local simp] hps_app

abbrev opOwn : List Nat := [1808, 5003, 8810, 1802, 4901, 4905, 4944]
/-- Nothing has been made at these sites. -/
def FreshO (h : Hp) : Prop := ∀ k ∈ hkeys ++ opOwn, h k = { base := 0, blks := [] }
def opC (h : Hp) : Hp := hps [(1808, { base := 1000000, blks := [] }), (5003, { base := 1000000, blks := [] }), (8810, { base := 1000000, blks := [] }), (1802, { base := 1000000, blks := [] }), (4901, { base := 1000000, blks := [] }), (4905, { base := 1000000, blks := [] }), (4944, { base := 1000000, blks := [] })] h
def opD (h : Hp) : Hp := hps [(4919, { base := 1000000, blks := [] }), (4945, { base := 1000000, blks := [] }), (4943, { base := 1000000, blks := [] }), (4937, { base := 1000000, blks := [] }), (4941, { base := 1000000, blks := [] }), (4910, { base := 1000000, blks := [] }), (4913, { base := 1000000, blks := [] }), (4917, { base := 1000000, blks := [] }), (8915, { base := 1000000, blks := [] }),
  (1808, { base := 1000000, blks := [] }), (5003, { base := 1000000, blks := [] }), (8810, { base := 1000000, blks := [] }), (1802, { base := 1000000, blks := [] }), (4901, { base := 1000000, blks := [] }), (4905, { base := 1000000, blks := [] }), (4944, { base := 1000000, blks := [] })] h
def opV (r : Reg) (l : List Wk) : V := .tup [if opE r l = 0 then .bptr 4919 0 1 0 0 else .nilp, .int .i64 (opA r l), .int .i64 (opE r l)]
def opO (r : Reg) (l : List Wk) (h : Hp) : Hp := if opE r l = 0 then Ob hgL (opH r l) (opC h) else opD h
noncomputable def openHS : HSpec where
  go args h := ⟨(args = rlE (decC rlE args) ∧ (decC rlE args).Fine) ∧ FreshO h, opV (decC rlE args).r (decC rlE args).l, opO (decC rlE args).r (decC rlE args).l h⟩
theorem openH_go (r : Reg) (l : List Wk) (h : Hp) : openHS.go [.agg [.sl 3 (r.kinds.map Kd.row), .sl 4 (r.parts.map Pt.row), .int .i64 r.machines, .sl 2 (r.orders.map Od.row)], .sl 4 (l.map Wk.row)] h = ⟨RL.Fine ⟨r, l⟩ ∧ FreshO h, opV r l, opO r l h⟩ := by
  simp only [openHS, rlE_dec']
  simp [Reg.row]
theorem openH_inv {args : List V} {h : Hp} (hc : (openHS.go args h).c) : ∃ r l, args = [.agg [.sl 3 (r.kinds.map Kd.row), .sl 4 (r.parts.map Pt.row), .int .i64 r.machines, .sl 2 (r.orders.map Od.row)], .sl 4 (l.map Wk.row)] ∧ RL.Fine ⟨r, l⟩ ∧ FreshO h := by
  obtain ⟨⟨h1, h2⟩, h3⟩ := hc
  exact ⟨_, _, h1, h2, h3⟩
theorem ptsB_len (n : Nat) : (ptsB n).length ≤ 1 := by unfold ptsB; split <;> simp
abbrev opL (a b c d e f g : Site) : List (Nat × Site) := [(1808, a), (5003, b), (8810, c), (1802, d), (4901, e), (4905, f), (4944, g)]
/-- A hangar that nobody looks at any more. -/
theorem hle_opD {s : HG} {h : Hp} {L : List (Nat × Site)} (h1 : s.ps.length ≤ 1000) (h2 : s.hb.length ≤ 1000) (hk : allK (fun k => (hps L h k).base + (hps L h k).blks.length ≤ 1000000) opOwn) (hm : (L.map (·.1)).all (fun k => opOwn.contains k) = true) : HLe (Ob hgL s (hps L h)) (opD h) := by
  have hp := ptsB_len s.ps.length
  have hD : ∀ k, k ∈ hkeys ++ opOwn → opD h k = { base := 1000000, blks := [] } := by
    intro k hk
    simp only [hkeys, opOwn, List.cons_append, List.nil_append, List.mem_cons, List.not_mem_nil, or_false] at hk
    rcases hk with rfl | rfl | rfl | rfl | rfl | rfl | rfl | rfl | rfl | rfl | rfl | rfl | rfl | rfl | rfl | rfl <;> simp [opD]
  have hn : ∀ k, k ∉ hkeys ++ opOwn → opD h k = h k ∧ Ob hgL s (hps L h) k = h k := by
    intro k hk
    constructor
    · exact hps_not hk
    · have h3 : hkeys.contains k = false := by simp only [List.mem_append, not_or] at hk; simpa [List.contains_eq_mem] using hk.1
      rw [g_ne _ _ h3]
      refine hps_not fun hx => hk ?_
      have := List.all_eq_true.1 hm k hx
      exact List.mem_append_right _ (by simpa [List.contains_eq_mem] using this)
  refine .sites (fun k => ?_) (by
    have := hn YS (by simp [YS])
    rw [this.1, this.2])
  by_cases hx : k ∈ hkeys ++ opOwn
  · rw [hD k hx]
    refine .clear rfl ?_
    rcases List.mem_append.1 hx with hx | hx
    · simp only [hkeys, List.mem_cons, List.not_mem_nil, or_false] at hx
      rcases hx with rfl | rfl | rfl | rfl | rfl | rfl | rfl | rfl | rfl <;> simp <;> omega
    · have h3 : hkeys.contains k = false := by
        simp only [opOwn, List.mem_cons, List.not_mem_nil, or_false] at hx
        rcases hx with rfl | rfl | rfl | rfl | rfl | rfl | rfl <;> rfl
      rw [g_ne _ _ h3]
      exact allK_mem hk k hx
  · obtain ⟨e1, e2⟩ := hn k hx
    rw [e1, e2]; exact .same rfl rfl
theorem fresh_self {h : Hp} (hf : FreshO h) : h = hps [(1808, { base := 0, blks := [] }), (5003, { base := 0, blks := [] }), (8810, { base := 0, blks := [] }), (1802, { base := 0, blks := [] }), (4901, { base := 0, blks := [] }), (4905, { base := 0, blks := [] }), (4944, { base := 0, blks := [] })] h := by
  refine (hps_self fun k hk => ?_).symm
  simp only [List.map_cons, List.map_nil, List.mem_cons, List.not_mem_nil, or_false] at hk
  rcases hk with rfl | rfl | rfl | rfl | rfl | rfl | rfl <;> exact hf _ (by simp)
namespace H50
noncomputable abbrev E18 : Env := { P := Tryz.prog, fn := tbl [(48, .pure validS), (49, .heap newS), (50, .heap doS)], own := [], key := 1800, nt := 38 }
theorem b18 : HeapBody E18 [] Tryz.f18 openHS := by
  intro args h hc
  obtain ⟨r, l, rfl, ⟨b1, b2, b3, b4⟩, hfr⟩ := openH_inv hc
  simp only at b1 b2 b3 b4
  rw [openH_go]
  clear hc
  have hself := fresh_self hfr
  have f1 := hfr 4919 (by simp)
  have f2 := hfr 4945 (by simp)
  have f3 := hfr 4943 (by simp)
  have f4 := hfr 4937 (by simp)
  have f5 := hfr 4941 (by simp)
  have f6 := hfr 4910 (by simp)
  have f7 := hfr 4913 (by simp)
  have f8 := hfr 4917 (by simp)
  have f9 := hfr 8915 (by simp)
  clear hfr
  have hO : opO r l h = if opE r l = 0 then Ob hgL (opH r l) (opC h) else opD h := rfl
  generalize opO r l h = HO at *
  rw [hself]
  cases c1 : r.valid
  · have hE : opE r l = 90 := by simp [opE, c1]
    have hA : opA r l = 0 := by simp [opA, c1]
    simp -dsimp [Tryz.f18, E18, Reg.row, -lendN, -lend1]
    repeat' (first | omega | (simp -dsimp [E18, ri, cellp, ints, -lendN, -lend1, b1, b2, b3, regE_dec', Reg.row, c1, hE, hA, opV, hO]) | (refine Also.intro ?_ fun _ => ?_) | (refine Hold.intro fun _ => ?_) | (refine And.intro ?_ ?_))
    all_goals (simp only [opD]; exact (by (try simp -dsimp only [hpush_noH, hpush_hps, hps_over]); refine hle_hpsb ?_; simp -dsimp [allK, f1, f2, f3, f4, f5, f6, f7, f8, f9]; repeat' (first | (refine And.intro ?_ ?_) | (refine sLe.same ?_ ?_ <;> (simp; done)) | (refine sLe.clear ?_ ?_ <;> (first | (simp; done) | (simp; omega))) | (refine sLe.drop 1 ?_ ?_ ?_ <;> (simp; done)))))
  by_cases c2 : l.length ≤ 200
  case neg =>
    have hE : opE r l = 2 := by simp [opE, c1, c2]
    have hA : opA r l = 0 := by simp [opA, c1, c2]
    have c2' : (200 : Int) < l.length := by omega
    simp -dsimp [Tryz.f18, E18, Reg.row, -lendN, -lend1]
    repeat' (first | omega | (simp -dsimp [E18, ri, cellp, ints, -lendN, -lend1, b1, b2, b3, regE_dec', Reg.row, c1, c2', hE, hA, opV, hO]) | (refine Also.intro ?_ fun _ => ?_) | (refine Hold.intro fun _ => ?_) | (refine And.intro ?_ ?_))
    all_goals (simp only [opD]; exact (by (try simp -dsimp only [hpush_noH, hpush_hps, hps_over]); refine hle_hpsb ?_; simp -dsimp [allK, f1, f2, f3, f4, f5, f6, f7, f8, f9]; repeat' (first | (refine And.intro ?_ ?_) | (refine sLe.same ?_ ?_ <;> (simp; done)) | (refine sLe.clear ?_ ?_ <;> (first | (simp; done) | (simp; omega))) | (refine sLe.drop 1 ?_ ?_ ?_ <;> (simp; done)))))
  have c2' : ¬ (200 : Int) < l.length := by omega
  have hsm := small_of c1
  have hFr : ∀ S : Site, Fresh (hps [(1802, S), (1808, { base := 0, blks := [] }), (5003, { base := 0, blks := [] }), (8810, { base := 0, blks := [] }), (1802, { base := 0, blks := [] }), (4901, { base := 0, blks := [] }), (4905, { base := 0, blks := [] }), (4944, { base := 0, blks := [] })] h) := by
    intro S k hk; simp only [hkeys, List.mem_cons, List.not_mem_nil, or_false] at hk
    rcases hk with rfl | rfl | rfl | rfl | rfl | rfl | rfl | rfl | rfl <;> simp [f1, f2, f3, f4, f5, f6, f7, f8, f9]
  have hBl : ∀ S : Site, Blank newOwn (hps [(1802, S), (1808, { base := 0, blks := [] }), (5003, { base := 0, blks := [] }), (8810, { base := 0, blks := [] }), (1802, { base := 0, blks := [] }), (4901, { base := 0, blks := [] }), (4905, { base := 0, blks := [] }), (4944, { base := 0, blks := [] })] h) := by
    intro S k hk; simp only [newOwn, List.mem_cons, List.not_mem_nil, or_false] at hk
    rcases hk with rfl | rfl | rfl <;> simp
  have hsm := small_of c1
  simp -dsimp [Tryz.f18, E18, Reg.row, -lendN, -lend1]
  repeat' (first | omega | (simp -dsimp [E18, ri, cellp, ints, -lendN, -lend1, b1, b2, b3, regE_dec', Reg.row, c1, c2', new_go', hsm, hFr, hBl, bmp]) | (refine Also.intro ?_ fun _ => ?_) | (refine Hold.intro fun _ => ?_) | (refine And.intro ?_ ?_))
  refine awp_loop [20, 21, 22, 23, 8, 7, 24, 25, 26, 27, 28, 4, 5, 6, 29, 30, 31, 32, 33, 34, 35, 36, 19] (fun k : { k : Nat // k ≤ l.length ∧ ∀ j, j < k → okAt r l j = true } => [(4, (true, .bptr 4919 0 1 0 0)), (5, (true, .int .i64 0)), (6, (true, .int .i64 0)), (19, (true, .int .i64 (k.1 : Nat)))])
    (fun k => Ob hgL (stT r l k.1) (hps [(1808, { base := k.1, blks := [] }), (5003, { base := k.1, blks := [] }), (8810, { base := k.1, blks := [] }), (1802, { base := 1, blks := [] }), (4901, { base := 1000000, blks := [] }), (4905, { base := 1000000, blks := [] }), (4944, { base := 1000000, blks := [] })] h)) (fun k => l.length - k.1) ⟨0, by omega, fun j hj => by omega⟩ ?_ ?_ ?_
  · simp [okAll, okv]
  · exact (by (try simp -dsimp only [hpush_hps, hps_app, List.cons_append, List.nil_append, hps_over]); refine ob_hle ?_; simp -dsimp [allK, ]; repeat' (first | (refine And.intro ?_ ?_) | (refine sLe.same ?_ ?_ <;> (simp; done)) | (refine sLe.clear ?_ ?_ <;> (first | (simp; done) | (simp; omega))) | (refine sLe.drop 1 ?_ ?_ ?_ <;> (simp; done))))
  rintro ⟨k, hk, hall⟩
  simp only
  have hI := stT_inv (l := l) c1 k (by omega) hall
  have hOk := hI.ok (by omega)
  by_cases hk1 : k < l.length
  · have hki : (k : Int) < l.length := by omega
    have wk : IntKind.wrap .i64 ((k : Int) + 1) = (k + 1 : Nat) := wrap_id (by omega) (by omega)
    obtain ⟨w, hw, hw'⟩ := get_ex hk1
    have hg : l.getD k default = w := by simp [List.getD, hw]
    have hok : okAt r l k = (stT r l k).doOk w := by simp only [okAt, hg]
    have hst : stT r l (k + 1) = { (stT r l k).after w with wk := IntKind.wrap .i64 (((stT r l k).after w).wk + 1) } := by simp only [stT, hg, HG.step, wadd, after_wk]
    generalize hS : stT r l k = S at *
    have hbl : ∀ (S : HG) (X : Site) (a b : Nat), Blank doOwn (Ob hgL S (hps [(1808, X), (5003, { base := a, blks := [] }), (8810, { base := b, blks := [] }), (1802, { base := 1, blks := [] }), (4901, { base := 1000000, blks := [] }), (4905, { base := 1000000, blks := [] }), (4944, { base := 1000000, blks := [] })] h)) := by
      intro S X a b k hk
      simp only [doOwn, List.mem_cons, List.not_mem_nil, or_false] at hk
      rcases hk with rfl | rfl <;> simp
    cases hd : S.doOk w
    · have hba : badAt r l = k := badAt_at hk1 (by rw [hok, hd]) hall
      have hE : opE r l = 91 := by simp [opE, c1, c2, hba] <;> omega
      have hA : opA r l = k := by simp [opA, c1, c2, hba] <;> omega
      simp -dsimp [hki, -lendN, -lend1]
      repeat' (first | omega | (simp -dsimp [E18, ri, cellp, ints, -lendN, -lend1, hki, hk1, hw, hw', Wk.row, do_go', hOk, hbl, bmp, g_hset, hd, hE, hA, opV]) | (refine Also.intro ?_ fun _ => ?_) | (refine Hold.intro fun _ => ?_) | (refine And.intro ?_ ?_))
      have hIp := hI.psl
      have hIb := hI.hbl
      obtain ⟨_, vp, _⟩ := valid_facts c1
      have ha : S.after w = S := by simp [HG.after, hd]
      rw [hO, if_neg (by rw [hE]; decide), ha]
      exact hle_opD (by omega) (by omega) (by simp [allK] <;> omega) rfl
    · have hall' : ∀ j, j < k + 1 → okAt r l j = true := fun j hj => by
        by_cases e : j = k
        · subst e; rw [hok, hd]
        · exact hall j (by omega)
      generalize hS' : S.after w = S' at *
      have hww := fun h => w_wk (s := S') (h := h) (IntKind.wrap .i64 (S'.wk + 1))
      rw [← hst] at hww
      simp -dsimp [hki, -lendN, -lend1]
      repeat' (first | omega | (simp -dsimp [E18, ri, cellp, ints, -lendN, -lend1, hki, hk1, hw, hw', Wk.row, do_go', hOk, hbl, bmp, g_hset, hd, hS', hww, wk]) | (refine Also.intro ?_ fun _ => ?_) | (refine Hold.intro fun _ => ?_) | (refine And.intro ?_ ?_))
      refine ⟨k + 1, tle_chain rfl ?_, (by (try simp -dsimp only [hpush_hps, hps_app, List.cons_append, List.nil_append, hps_over]); refine ob_hle ?_; simp -dsimp [allK, ]; repeat' (first | (refine And.intro ?_ ?_) | (refine sLe.same ?_ ?_ <;> (simp; done)) | (refine sLe.clear ?_ ?_ <;> (first | (simp; done) | (simp; omega))) | (refine sLe.drop 1 ?_ ?_ ?_ <;> (simp; done)))), ⟨by omega, hall'⟩, by omega⟩
      simp [okAll, okv]
  · have hkn : ¬ (k : Int) < l.length := by omega
    have hke : k = l.length := by omega
    subst hke
    have hba : badAt r l = -1 := badAt_none hall
    have hE : opE r l = 0 := by simp [opE, c1, c2, hba]
    have hA : opA r l = 0 := by simp [opA, c1, c2, hba]
    have hHk := hOk.hok
    simp -dsimp [hkn, -lendN, -lend1]
    repeat' (first | omega | (simp -dsimp [E18, ri, cellp, ints, -lendN, -lend1, hkn, hE, hA, opV]) | (refine Also.intro ?_ fun _ => ?_) | (refine Hold.intro fun _ => ?_) | (refine And.intro ?_ ?_))
    rw [hO, if_pos hE, opC, opH]
    exact (by (try simp -dsimp only [hpush_hps, hps_app, List.cons_append, List.nil_append, hps_over]); refine ob_hle ?_; simp -dsimp [allK, ]; repeat' (first | (refine And.intro ?_ ?_) | (refine sLe.same ?_ ?_ <;> (simp; done)) | (refine sLe.clear ?_ ?_ <;> (first | (simp; done) | (simp; omega))) | (refine sLe.drop 1 ?_ ?_ ?_ <;> (simp; done))))
theorem ok18 : FnOK Tryz.prog 18 (.heap openHS) := heap_fn (E := E18) rfl (.cons ok48 (.cons ok49 (.cons ok50 .nil))) (ok := []) (fn := Tryz.f18) (by kernel_rfl) (by kernel_rfl) (by kernel_rfl) (by kernel_rfl) rfl (fun args h hc => by obtain ⟨_, _, rfl, _⟩ := openH_inv hc; simp) b18
end H50
end Go.Sx
end
section
/- Parts: History, the program's and the reference's. No conditions. -/
set_option linter.unusedSimpArgs false
set_option linter.unusedSectionVars false
set_option maxRecDepth 100000
set_option maxHeartbeats 4000000
namespace Go.Sx
open Go.Proofs
attribute [local irreducible] HLe
attribute [local simp] hps_app

def hstF (r : Reg) (l : List Wk) (n : Int) : List Stt := if opE r l = 0 then (if RS.partA r n = true then refH l n.toNat l.length else []) else []
def hstE (r : Reg) (l : List Wk) (n : Int) : Int := if opE r l = 0 then (if RS.partA r n = true then 0 else 1) else opE r l
noncomputable abbrev hstS : PSpec := mkP rnE RLN.Fine fun d => .tup [.sl 6 ((hstF d.r d.l d.n).map Stt.row), .int .i64 (hstE d.r d.l d.n)]
theorem lend_hb {s : HG} {i n : Nat} {l : List Stt} (hl : s.hb[i]? = some l) (hn : n = l.length) (h : Hp) : lend1 (Ob hgL s h) (.bsl 8915 i n) = (True, .sl 6 (l.map Stt.row)) := by
  subst hn
  simp [lend1, lendN, hl, hbB]
noncomputable abbrev E10 : Env := { P := Tryz.prog, fn := tbl [(18, .heap openHS), (30, .pure partS), (31, .heap endS)], own := [], key := 1000, nt := 53 }
theorem b10 : PureBody E10 [] Tryz.f10 hstS := by
  refine pb ?_
  rintro ⟨r, l, n⟩ hfn
  have hfn' : RL.Fine ⟨r, l⟩ := hfn
  have hFr : ∀ S : Site, FreshO (hps [(1003, S)] noH) := by
    intro S k hk
    simp only [hkeys, opOwn, List.cons_append, List.nil_append, List.mem_cons, List.not_mem_nil, or_false] at hk
    rcases hk with rfl | rfl | rfl | rfl | rfl | rfl | rfl | rfl | rfl | rfl | rfl | rfl | rfl | rfl | rfl | rfl <;> simp
  by_cases hE : opE r l = 0
  case neg =>
    have hR : hstF r l n = [] := by simp [hstF, hE]
    have hR2 : hstE r l n = opE r l := by simp [hstE, hE]
    have hV : opV r l = .tup [.nilp, .int .i64 (opA r l), .int .i64 (opE r l)] := by simp [opV, hE]
    have hO : ∀ h, opO r l h = opD h := fun h => by simp [opO, hE]
    simp -dsimp [Tryz.f10, E10, Reg.row]
    repeat' (first | omega | (simp -dsimp [E10, ri, cellp, ints, openH_go, hfn', hFr, hV, hO, hE, hR, hR2]) | (refine Also.intro ?_ fun _ => ?_) | (refine Hold.intro fun _ => ?_) | (refine And.intro ?_ ?_))
  have hIv := (opE_inv hE).2.2.2
  obtain ⟨v1, v2, v3, v4, v5, v6, v7, v8⟩ := valid_facts hIv.val
  have hV : opV r l = .tup [.bptr 4919 0 1 0 0, .int .i64 (opA r l), .int .i64 0] := by simp [opV, hE]
  have hO : ∀ h, opO r l h = Ob hgL (opH r l) (opC h) := fun h => by simp [opO, hE]
  have hOk := opE_ok hE
  have hHk := hOk.hok
  have hpq : (opH r l).i.part n = RS.partA r n := by show withinB n 0 (wsub (opH r l).ps.length 1) = _; rw [hIv.psl]; rfl
  cases hp : RS.partA r n
  · rw [hp] at hpq
    have hR : hstF r l n = [] := by simp [hstF, hE, hp]
    have hR2 : hstE r l n = 1 := by simp [hstE, hE, hp]
    generalize hs : opH r l = s at *
    simp -dsimp [Tryz.f10, E10, Reg.row, -lendN, -lend1]
    repeat' (first | omega | (simp -dsimp [E10, ri, cellp, ints, -lendN, -lend1, openH_go, hfn', hFr, hV, hO, opC, hHk, HI.v, hiE_dec', hpq, hR, hR2]) | (refine Also.intro ?_ fun _ => ?_) | (refine Hold.intro fun _ => ?_) | (refine And.intro ?_ ?_))
  rw [hp] at hpq
  obtain ⟨pi, rfl, hpi⟩ := withinB_nat (m := r.parts.length) (by omega) hp
  have hview := opE_view hE hpi
  have hR : hstF r l pi = (opH r l).view pi := by simp [hstF, hE, hp, hview]
  have hR2 : hstE r l pi = 0 := by simp [hstE, hE, hp]
  have hlen := refH_len l pi l.length
  rw [← hview] at hlen
  have hrl := hIv.psl
  rw [hR, hR2]
  clear hview hR hR2 hIv
  generalize hs : opH r l = s at *
  have hpl : pi < s.ps.length := by omega
  obtain ⟨p, hpk, hpk'⟩ := get_ex hpl
  have hgp : s.ps.getD pi default = p := by simp [List.getD, hpk]
  have hhl : pi < s.hi.length := by rw [hOk.hil]; omega
  obtain ⟨o, ho, ho'⟩ := get_ex hhl
  have hpts := ptsV_ne (n := s.ps.length) (by omega)
  have hptB := ptsB_ne (n := s.ps.length) (by omega)
  have hmx := mapIdx_get hpk
  have hni : (pi : Int) < s.ps.length := by omega
  by_cases hpa : 0 ≤ p.a
  · obtain ⟨_, i, l0, hh1, hh2⟩ := hOk.at_ pi p hpk hpa
    have hpa' : ¬ p.a < 0 := by omega
    have hoi : o = some (i, l0.length) := by rw [ho] at hh1; exact Option.some.inj hh1
    subst hoi
    have hV2 : s.view pi = endL s.fl s.wk l0 := by rw [HG.view, hgp, if_pos hpa, rows_some ho]; simp [List.getD, hh2.at_]
    have hE2 : ∃ l', EndOk s i l' ∧ l0.length = l'.length := ⟨l0, hh2, rfl⟩
    have hib : i < s.hb.length := (List.getElem?_eq_some_iff.1 hh2.at_).1
    have hhb : (s.endd i s.wk).hb[i]? = some (endL s.fl s.wk l0) := by
      have : s.hb.getD i [] = l0 := by simp [List.getD, hh2.at_]
      simp only [HG.endd, this]
      simp [hib]
    have hel := endL_len s.fl s.wk l0
    have hld := lend_hb hhb hel.symm
    rw [hV2]
    simp -dsimp [Tryz.f10, E10, Reg.row, -lendN, -lend1]
    repeat' (first | omega | (simp -dsimp [E10, ri, cellp, ints, -lendN, -lend1, openH_go, hfn', hFr, hV, hO, opC, hHk, HI.v, hiE_dec', hpq, hni, hpl, hpk, hpk', hpts, hptB, hmx, PS.blk, PS.row, hpa, hhl, ho, ho', hiV_some, end_go, hE2, hld]) | (refine Also.intro ?_ fun _ => ?_) | (refine Hold.intro fun _ => ?_) | (refine And.intro ?_ ?_))
    done
  · have hV2 : s.view pi = s.rowsOf pi := by rw [HG.view, hgp, if_neg hpa]
    have hpa' : p.a < 0 := by omega
    rw [hV2]
    rcases o with _ | ⟨i, m⟩
    · rw [rows_none ho]
      simp -dsimp [Tryz.f10, E10, Reg.row, -lendN, -lend1]
      repeat' (first | omega | (simp -dsimp [E10, ri, cellp, ints, -lendN, -lend1, openH_go, hfn', hFr, hV, hO, opC, hHk, HI.v, hiE_dec', hpq, hni, hpl, hpk, hpk', hpts, hptB, hmx, PS.blk, PS.row, hpa, hpa', hhl, ho, ho', hiV_none]) | (refine Also.intro ?_ fun _ => ?_) | (refine Hold.intro fun _ => ?_) | (refine And.intro ?_ ?_))
      done
    · obtain ⟨l0, y1, y2⟩ := hHk.hi _ (List.mem_of_getElem? ho) i m rfl
      have y3 : s.rowsOf pi = l0 := by rw [rows_some ho]; simp [List.getD, y1]
      have hib : i < s.hb.length := (List.getElem?_eq_some_iff.1 y1).1
      have hld := lend_hb y1 y2.symm
      rw [y3]
      simp -dsimp [Tryz.f10, E10, Reg.row, -lendN, -lend1]
      repeat' (first | omega | (simp -dsimp [E10, ri, cellp, ints, -lendN, -lend1, openH_go, hfn', hFr, hV, hO, opC, hHk, HI.v, hiE_dec', hpq, hni, hpl, hpk, hpk', hpts, hptB, hmx, PS.blk, PS.row, hpa, hpa', hhl, ho, ho', hiV_some, hld]) | (refine Also.intro ?_ fun _ => ?_) | (refine Hold.intro fun _ => ?_) | (refine And.intro ?_ ?_))
      done
theorem ok10 : FnOK Tryz.prog 10 (.pure hstS) := pure_fn (E := E10) rfl (.cons H50.ok18 (.cons ok30 (.cons ok31 .nil))) (ok := []) (fn := Tryz.f10) (by kernel_rfl) (by kernel_rfl) (by kernel_rfl) (by kernel_rfl) rfl (fun _ _ => by simp) b10
end Go.Sx
end
section
/- Pages: hours by the number of pages that they are on. No conditions. -/
set_option linter.unusedSimpArgs false
set_option linter.unusedSectionVars false
namespace Go.Sx

structure Sp where
  lo : Int
  hi : Int
  deriving DecidableEq, Inhabited
def Sp.row (s : Sp) : List V := [.int .i64 s.lo, .int .i64 s.hi]
theorem Sp.row_inj (a b : Sp) (h : a.row = b.row) : a = b := by
  cases a; cases b; simp [Sp.row] at h; simp [h]
def Sp.has (s : Sp) (h : Int) : Bool := decide (s.lo ≤ h) && decide (h ≤ s.hi)
/-- On how many of the first pages an hour is. -/
def manyTo (pg : List Sp) (h : Int) : Nat → Nat
  | 0 => 0
  | k + 1 => manyTo pg h k + if (pg.getD k default).has h = true then 1 else 0
def many (pg : List Sp) (h : Int) : Nat := manyTo pg h pg.length
theorem manyTo_le (pg : List Sp) (h : Int) : ∀ k, manyTo pg h k ≤ k
  | 0 => Nat.le_refl _
  | k + 1 => by
    have := manyTo_le pg h k
    simp only [manyTo]; split <;> omega
/-- The fewest spans of the hours that are so. -/
def rns (f : Nat → Bool) : Nat → List Sp
  | 0 => []
  | h + 1 => if f h = true then (match (rns f h).getLast? with
      | some s => if s.hi = (h : Int) - 1 then (rns f h).dropLast ++ [⟨s.lo, h⟩] else rns f h ++ [⟨h, h⟩]
      | none => [⟨h, h⟩]) else rns f h
theorem rns_no {f : Nat → Bool} {h : Nat} (hf : f h = false) : rns f (h + 1) = rns f h := by
  simp only [rns, hf]; rfl
theorem rns_nil {f : Nat → Bool} {h : Nat} (hf : f h = true) (hr : rns f h = []) : rns f (h + 1) = [⟨h, h⟩] := by
  simp only [rns, hf, hr]; rfl
theorem rns_more {f : Nat → Bool} {h : Nat} {p : List Sp} {s : Sp} (hf : f h = true) (hr : rns f h = p ++ [s]) (hs : s.hi = (h : Int) - 1) : rns f (h + 1) = p ++ [⟨s.lo, h⟩] := by
  simp [rns, hf, hr, hs]
theorem rns_new {f : Nat → Bool} {h : Nat} {p : List Sp} {s : Sp} (hf : f h = true) (hr : rns f h = p ++ [s]) (hs : ¬ s.hi = (h : Int) - 1) : rns f (h + 1) = p ++ [s] ++ [⟨h, h⟩] := by
  simp [rns, hf, hr, hs]
theorem snoc_cases {α : Type} (l : List α) : l = [] ∨ ∃ p s, l = p ++ [s] := by
  cases h : l.reverse with
  | nil => left; simpa using h
  | cons a r => right; exact ⟨r.reverse, a, by have := congrArg List.reverse h; simpa using this⟩
theorem rns_len (f : Nat → Bool) : ∀ h, (rns f h).length ≤ h
  | 0 => by simp [rns]
  | h + 1 => by
    have ih := rns_len f h
    cases hf : f h
    · rw [rns_no hf]; omega
    · rcases snoc_cases (rns f h) with e | ⟨p, s, e⟩
      · rw [rns_nil hf e]; simp
      · rw [e] at ih
        simp at ih
        by_cases hs : s.hi = (h : Int) - 1
        · rw [rns_more hf e hs]; simp; omega
        · rw [rns_new hf e hs]; simp; omega
theorem rns_congr {f g : Nat → Bool} : ∀ h, (∀ i, i < h → f i = g i) → rns f h = rns g h
  | 0, _ => rfl
  | h + 1, hfg => by simp only [rns, rns_congr h fun i hi => hfg i (by omega), hfg h (by omega)]
/-- By how much the number of pages changes at an hour. -/
def chTo (hrs : Nat) (pg : List Sp) : Nat → List Int
  | 0 => List.replicate (hrs + 1) 0
  | k + 1 => let c := chTo hrs pg k
    let a := (pg.getD k default).lo.toNat
    let b := ((pg.getD k default).hi + 1).toNat
    let c1 := c.set a (c.getD a 0 + 1)
    c1.set b (c1.getD b 0 - 1)
theorem chTo_len (hrs : Nat) (pg : List Sp) : ∀ k, (chTo hrs pg k).length = hrs + 1
  | 0 => by simp [chTo]
  | k + 1 => by simp only [chTo, List.length_set]; exact chTo_len hrs pg k
def psum (c : List Int) : Nat → Int
  | 0 => 0
  | h + 1 => psum c h + c.getD h 0
theorem psum_set (c : List Int) (a : Nat) (x : Int) (ha : a < c.length) : ∀ h, psum (c.set a x) h = psum c h + if a < h then x - c.getD a 0 else 0
  | 0 => by simp [psum]
  | h + 1 => by
    simp only [psum, psum_set c a x ha h]
    by_cases e : a = h
    · subst e
      have : (c.set a x).getD a 0 = x := by simp [List.getD, ha]
      rw [this, if_neg (by omega), if_pos (by omega)]; omega
    · have : (c.set a x).getD h 0 = c.getD h 0 := by simp [List.getD, List.getElem?_set_ne e]
      rw [this]
      by_cases hlt : a < h
      · rw [if_pos hlt, if_pos (by omega)]; omega
      · rw [if_neg hlt, if_neg (by omega)]; omega
theorem psum_zero (n : Nat) : ∀ h, psum (List.replicate n (0 : Int)) h = 0
  | 0 => rfl
  | h + 1 => by
    rw [psum, psum_zero n h]
    simp only [List.getD, List.getElem?_replicate]
    split <;> rfl
theorem psum_many {hrs : Nat} {pg : List Sp} (hp : ∀ p ∈ pg, 0 ≤ p.lo ∧ p.lo ≤ p.hi ∧ p.hi ≤ (hrs : Int) - 1) : ∀ k h, k ≤ pg.length → h < hrs → psum (chTo hrs pg k) (h + 1) = (manyTo pg h k : Nat)
  | 0, h, _, _ => by rw [chTo, psum_zero]; rfl
  | k + 1, h, hk, hh => by
    have ih := psum_many hp k h (by omega) hh
    have hkl : k < pg.length := by omega
    have hb := hp (pg.getD k default) (by simp [List.getD, hkl])
    generalize hP : pg.getD k default = p at *
    have hl := chTo_len hrs pg k
    have e0 : chTo hrs pg (k + 1) = ((chTo hrs pg k).set p.lo.toNat ((chTo hrs pg k).getD p.lo.toNat 0 + 1)).set (p.hi + 1).toNat (((chTo hrs pg k).set p.lo.toNat ((chTo hrs pg k).getD p.lo.toNat 0 + 1)).getD (p.hi + 1).toNat 0 - 1) := by
      simp only [chTo, hP]
    rw [e0, psum_set _ _ _ (by rw [List.length_set]; omega), psum_set _ _ _ (by omega), ih]
    have e1 : manyTo pg h (k + 1) = manyTo pg h k + if p.has h = true then 1 else 0 := by simp only [manyTo, hP]
    rw [e1]
    by_cases h1 : p.lo ≤ (h : Int)
    · rw [if_pos (show p.lo.toNat < h + 1 by omega)]
      by_cases h2 : (h : Int) ≤ p.hi
      · have : p.has h = true := by simp [Sp.has, h1, h2]
        rw [if_pos this, if_neg (show ¬ (p.hi + 1).toNat < h + 1 by omega)]; omega
      · have : ¬ p.has h = true := by simp [Sp.has, h2]
        rw [if_neg this, if_pos (show (p.hi + 1).toNat < h + 1 by omega)]; omega
    · rw [if_neg (show ¬ p.lo.toNat < h + 1 by omega)]
      have : ¬ p.has h = true := by simp [Sp.has, h1]
      rw [if_neg this, if_neg (show ¬ (p.hi + 1).toNat < h + 1 by omega)]; omega
theorem chTo_bd {hrs : Nat} {pg : List Sp} : ∀ (k i : Nat), -(k : Int) ≤ (chTo hrs pg k).getD i 0 ∧ (chTo hrs pg k).getD i 0 ≤ k
  | 0, i => by simp only [chTo, List.getD, List.getElem?_replicate]; split <;> simp
  | k + 1, i => by
    have ih := chTo_bd (hrs := hrs) (pg := pg) k
    have st : ∀ (c : List Int) (a j : Nat) (x : Int), (c.set a x).getD j 0 = x ∨ (c.set a x).getD j 0 = c.getD j 0 ∨ (c.set a x).getD j 0 = 0 := by
      intro c a j x
      simp only [List.getD, List.getElem?_set]
      split
      · split
        · left; rfl
        · right; right; rfl
      · right; left; rfl
    simp only [chTo]
    generalize chTo hrs pg k = c at *
    generalize (pg.getD k default).lo.toNat = a
    generalize ((pg.getD k default).hi + 1).toNat = b
    have iha := ih a
    have ihb := ih b
    have ihi := ih i
    have f1 := fun j => st c a j (c.getD a 0 + 1)
    have g1 := f1 b
    have g2 := f1 i
    rcases st (c.set a (c.getD a 0 + 1)) b i ((c.set a (c.getD a 0 + 1)).getD b 0 - 1) with h | h | h <;> rw [h] <;> omega
end Go.Sx
end
