/- A part of a proof; no conditions. -/
import Derived.Test.YtnpdjaikmdagmaaGreatDoorP20
set_option linter.unusedSimpArgs false
set_option linter.unusedVariables false
set_option linter.unusedSectionVars false
section
/- Parts: the histories, as the works tell them. No conditions. -/
set_option linter.unusedSimpArgs false
set_option linter.unusedSectionVars false
namespace Go.Sx

def Wk.fits (w : Wk) (p : Nat) : Bool := w.kind == 2 && w.a == (p : Int)
def Wk.takes (w : Wk) (p : Nat) : Bool := w.kind == 3 && w.a == (p : Int)
def wkAt (l : List Wk) (i : Nat) : Wk := l.getD i default
section ev
variable (l : List Wk)
/-- The works that put a part into a machine. -/
def fs (p : Nat) : Nat → List Nat
  | 0 => []
  | n + 1 => if (wkAt l n).fits p = true then fs p n ++ [n] else fs p n
/-- The first work behind i that takes a part. -/
def toN (p i : Nat) : Nat → Nat
  | 0 => 0
  | n + 1 => if toN p i n < n then toN p i n else if i < n ∧ (wkAt l n).takes p = true then n else n + 1
def fl1 (m : Int) (t : Nat) : Int × Int := if (wkAt l t).kind = 1 ∧ (wkAt l t).a = m then ((wkAt l t).b, (wkAt l t).c) else (0, 0)
/-- What a machine has flown in the works from i on, ahead of j. -/
def sumF (m : Int) (i : Nat) : Nat → Int × Int
  | 0 => (0, 0)
  | j + 1 => if i ≤ j then ((sumF m i j).1 + (fl1 l m j).1, (sumF m i j).2 + (fl1 l m j).2) else (0, 0)
def stV (p n i : Nat) : Int × Int := sumF l (wkAt l i).b i (toN l p i n)
def stF (p n i : Nat) : Stt := ⟨(wkAt l i).b, (wkAt l i).c, i, toN l p i n, (stV l p n i).1, (stV l p n i).2⟩
def rawF (p n i : Nat) : Stt := if toN l p i n < n then stF l p n i else ⟨(wkAt l i).b, (wkAt l i).c, i, -1, (sumF l (wkAt l i).b 0 i).1, (sumF l (wkAt l i).b 0 i).2⟩
def refH (p n : Nat) : List Stt := (fs l p n).map (stF l p n)
end ev
def ssum (f : Nat → Int × Int) : List Nat → Int × Int
  | [] => (0, 0)
  | i :: r => ((f i).1 + (ssum f r).1, (f i).2 + (ssum f r).2)
theorem ssum_app (f : Nat → Int × Int) (b : List Nat) : ∀ a, ssum f (a ++ b) = ((ssum f a).1 + (ssum f b).1, (ssum f a).2 + (ssum f b).2)
  | [] => by simp [ssum]
  | i :: r => by
    simp only [List.cons_append, ssum, ssum_app f b r, Prod.mk.injEq]
    omega
theorem ssum_congr {f g : Nat → Int × Int} : ∀ {a : List Nat}, (∀ i ∈ a, f i = g i) → ssum f a = ssum g a
  | [], _ => rfl
  | i :: r, h => by
    simp only [ssum]
    rw [h i (by simp), ssum_congr fun j hj => h j (by simp [hj])]
section ev
variable {l : List Wk} {p : Nat}
theorem fs_lt : ∀ {n i : Nat}, i ∈ fs l p n → i < n ∧ (wkAt l i).fits p = true
  | 0, i, h => by simp [fs] at h
  | n + 1, i, h => by
    simp only [fs] at h
    split at h
    · rename_i hf
      rcases List.mem_append.1 h with h | h
      · have := fs_lt h; exact ⟨by omega, this.2⟩
      · simp only [List.mem_singleton] at h; subst h; exact ⟨by omega, hf⟩
    · have := fs_lt h; exact ⟨by omega, this.2⟩
theorem fs_asc : ∀ n, (fs l p n).Pairwise (· < ·)
  | 0 => by simp [fs]
  | n + 1 => by
    simp only [fs]
    split
    · rw [List.pairwise_append]
      refine ⟨fs_asc n, by simp, fun a ha b hb => ?_⟩
      simp only [List.mem_singleton] at hb
      subst hb
      exact (fs_lt ha).1
    · exact fs_asc n
theorem fs_len : ∀ n, (fs l p n).length ≤ n
  | 0 => by simp [fs]
  | n + 1 => by
    have := fs_len n
    simp only [fs]; split <;> simp <;> omega
theorem toN_le (i : Nat) : ∀ n, toN l p i n ≤ n
  | 0 => by simp [toN]
  | n + 1 => by
    have := toN_le i n
    simp only [toN]; split
    · omega
    · split <;> omega
theorem toN_ge {i : Nat} : ∀ {n}, n ≤ i + 1 → toN l p i n = n
  | 0, _ => rfl
  | n + 1, h => by
    have e := toN_ge (i := i) (n := n) (by omega)
    simp only [toN, e]
    rw [if_neg (by omega), if_neg (by omega)]
theorem toN_gt {i : Nat} : ∀ {n}, i < n → i < toN l p i n
  | 0, h => by omega
  | n + 1, h => by
    by_cases e : i = n
    · subst e; rw [toN_ge (Nat.le_refl _)]; omega
    · have := toN_gt (i := i) (n := n) (by omega)
      simp only [toN]; split
      · exact this
      · split <;> omega
theorem toN_cl {i n : Nat} (h : toN l p i n < n) : toN l p i (n + 1) = toN l p i n := by simp only [toN]; rw [if_pos h]
theorem toN_tk {i n : Nat} (h : toN l p i n = n) (hi : i < n) (ht : (wkAt l n).takes p = true) : toN l p i (n + 1) = n := by
  simp only [toN]; rw [if_neg (by omega), if_pos ⟨hi, ht⟩]
theorem toN_op {i n : Nat} (h : toN l p i n = n) (ht : (wkAt l n).takes p = false) : toN l p i (n + 1) = n + 1 := by
  simp only [toN]; rw [if_neg (by omega), if_neg (by rw [ht]; simp)]
theorem toN_cases (i n : Nat) : toN l p i n < n ∨ toN l p i n = n := by have := toN_le (l := l) (p := p) i n; omega
theorem sumF_ge (m : Int) {i : Nat} : ∀ {j}, j ≤ i → sumF l m i j = (0, 0)
  | 0, _ => rfl
  | j + 1, h => by simp only [sumF]; rw [if_neg (by omega)]
theorem sumF_split (m : Int) {i : Nat} : ∀ {j}, i ≤ j → sumF l m 0 j = ((sumF l m 0 i).1 + (sumF l m i j).1, (sumF l m 0 i).2 + (sumF l m i j).2)
  | 0, h => by
    have : i = 0 := by omega
    subst this; simp [sumF]
  | j + 1, h => by
    by_cases e : i = j + 1
    · subst e; rw [sumF_ge m (Nat.le_refl _)]; simp
    · have ih := sumF_split m (i := i) (j := j) (by omega)
      have e1 : sumF l m 0 (j + 1) = ((sumF l m 0 j).1 + (fl1 l m j).1, (sumF l m 0 j).2 + (fl1 l m j).2) := by simp [sumF]
      have e2 : sumF l m i (j + 1) = ((sumF l m i j).1 + (fl1 l m j).1, (sumF l m i j).2 + (fl1 l m j).2) := by simp only [sumF]; rw [if_pos (by omega)]
      rw [e1, e2, ih]
      simp only [Prod.mk.injEq]
      omega
theorem sumF_next (m : Int) {i j : Nat} (h : i ≤ j) : sumF l m i (j + 1) = ((sumF l m i j).1 + (fl1 l m j).1, (sumF l m i j).2 + (fl1 l m j).2) := by
  simp only [sumF]; rw [if_pos h]
theorem rawF_cl {i n : Nat} (h : toN l p i n < n) : rawF l p (n + 1) i = rawF l p n i := by
  have e := toN_cl h
  simp only [rawF, e]
  rw [if_pos (by omega), if_pos h]
  simp only [stF, stV, e]
theorem rawF_op {i n : Nat} (ht : (wkAt l n).takes p = false) : rawF l p (n + 1) i = rawF l p n i := by
  rcases toN_cases (l := l) (p := p) i n with h | h
  · exact rawF_cl h
  · have e := toN_op h ht
    simp only [rawF, e, h]
    rw [if_neg (by omega), if_neg (by omega)]
/-- What a stretch grows by. -/
theorem stV_next {i n : Nat} (hi : i < n) : stV l p (n + 1) i = if toN l p i n = n ∧ (wkAt l n).takes p = false then ((stV l p n i).1 + (fl1 l (wkAt l i).b n).1, (stV l p n i).2 + (fl1 l (wkAt l i).b n).2) else stV l p n i := by
  rcases toN_cases (l := l) (p := p) i n with h | h
  · rw [if_neg (by omega), stV, stV, toN_cl h]
  · cases ht : (wkAt l n).takes p
    · rw [if_pos ⟨h, rfl⟩, stV, stV, toN_op h ht, h, sumF_next _ (by omega)]
    · rw [if_neg (by simp), stV, stV, toN_tk h hi ht, h]
end ev

/-- The history that a hangar holds of a part. -/
def HG.rowsOf (s : HG) (p : Nat) : List Stt := match s.hi.getD p none with | some (i, _) => s.hb.getD i [] | none => []
/-- What a work does to a part. -/
inductive PStep (w : Wk) (s s' : HG) (p : Nat) (q q' : PS) : Prop
  | F (h : w.fits p = true) (ha : q.a = -1) (ha' : q'.a = w.b) (hb' : q'.b = w.c) (hh : q'.hours = q.hours) (hc : q'.cycles = q.cycles) (hm : 0 ≤ w.b ∧ w.b < s.fl.length) (hr : s'.rowsOf p = s.rowsOf p ++ [s.stt w.b w.c])
  | T (h : w.takes p = true) (ha : 0 ≤ q.a) (ha' : q'.a = -1) (hh : q'.hours = q.hours) (hc : q'.cycles = q.cycles) (hr : s'.rowsOf p = endL s.fl s.wk (s.rowsOf p))
  | Y (h : w.kind = 1) (ha : q.a = w.a) (ha' : q'.a = q.a) (hb' : q'.b = q.b) (hh : q'.hours = wadd q.hours w.b) (hc : q'.cycles = wadd q.cycles w.c) (hr : s'.rowsOf p = s.rowsOf p)
  | N (h : w.fits p = false) (h' : w.takes p = false) (hk : w.kind = 1 → q.a ≠ w.a) (hab : (q'.a = q.a ∧ q'.b = q.b) ∨ (q.a < 0 ∧ q'.a < 0)) (hh : q'.hours = q.hours) (hc : q'.cycles = q.cycles) (hr : s'.rowsOf p = s.rowsOf p)
theorem rows_some {s : HG} {p i m : Nat} (h : s.hi[p]? = some (some (i, m))) : s.rowsOf p = s.hb.getD i [] := by
  simp only [HG.rowsOf, List.getD, h, Option.getD_some]
theorem rows_none {s : HG} {p : Nat} (h : s.hi[p]? = some none) : s.rowsOf p = [] := by
  simp only [HG.rowsOf, List.getD, h, Option.getD_some]
theorem fit_facts {s : HG} {r : Reg} {n : Nat} (hI : s.Inv r n) {w : Wk} (hw : s.doOk w = true) (k2 : w.kind = 2) : ∃ k m : Nat, w.a = k ∧ k < s.ps.length ∧ w.b = m ∧ m < s.fl.length ∧ (s.ps.getD k default).a = -1 ∧ s.i.at (s.ps.getD k default).kind w.b w.c < 0 := by
  obtain ⟨v1, v2, v3, v4, v5, v6, v7, v8⟩ := valid_facts hI.val
  have hf : s.fitOk w.a w.b w.c = true := by simpa [HG.doOk, k2] using hw
  simp only [HG.fitOk, Bool.and_eq_true, beq_iff_eq, decide_eq_true_eq] at hf
  obtain ⟨f1, f2, f3, f4, f5, f6⟩ := hf
  obtain ⟨k, hk, hkl⟩ := withinB_nat (m := s.ps.length) (by rw [hI.psl]; omega) f1
  have hmm : ∃ m : Nat, w.b = m ∧ m < s.fl.length := withinB_nat (by have := hI.fl; omega) (by
    have : s.i.machine w.b = withinB w.b 0 (wsub r.machines 1) := by show withinB w.b 0 (wsub s.r.machines 1) = _; rw [hI.rg]
    rw [hI.fl, ← this]; exact f2)
  obtain ⟨m, hm, hml⟩ := hmm
  rw [hk, Int.toNat_natCast] at f3 f6
  exact ⟨k, m, hk, hkl, hm, hml, f3.1, f6⟩
theorem pstep {s : HG} {r : Reg} {n : Nat} (hI : s.Inv r n) {w : Wk} (hw : s.doOk w = true) {p : Nat} (hp : p < s.ps.length) : PStep w s (s.step w) p (s.ps.getD p default) ((s.step w).ps.getD p default) := by
  have hst : s.step w = { s.doDo w with wk := wadd s.wk 1 } := by simp only [HG.step, HG.after, hw, if_true]
  rw [hst]
  clear hst
  obtain ⟨v1, v2, v3, v4, v5, v6, v7, v8⟩ := valid_facts hI.val
  have hlt : ∀ {j i mm : Nat}, s.hi[j]? = some (some (i, mm)) → i < s.hb.length := fun e => by
    obtain ⟨l, l1, _⟩ := hI.hi _ _ _ e; exact (List.getElem?_eq_some_iff.1 l1).1
  have hph : p < s.hi.length := by rw [hI.hil]; exact hp
  obtain ⟨o, ho, _⟩ := get_ex hph
  by_cases k1 : w.kind = 1
  · have hfi : w.fits p = false := by simp [Wk.fits, k1]
    have hta : w.takes p = false := by simp [Wk.takes, k1]
    simp only [HG.doDo, k1, if_true]
    have hg : (s.flyDo w.a w.b w.c).ps.getD p default = flyP s.iss w.a w.b w.c (s.ps.getD p default) := by
      show (s.ps.map (flyP s.iss w.a w.b w.c)).getD p default = _
      simp [List.getD, hp]
    by_cases hm : (s.ps.getD p default).a = w.a
    · have e : flyP s.iss w.a w.b w.c (s.ps.getD p default) = { s.ps.getD p default with hours := wadd (s.ps.getD p default).hours w.b, cycles := wadd (s.ps.getD p default).cycles w.c, since := sinceTo s.iss w.b (s.ps.getD p default).since s.iss.length } := by simp only [flyP, if_pos hm]
      exact .Y k1 hm (by rw [hg, e]) (by rw [hg, e]) (by rw [hg, e]) (by rw [hg, e]) rfl
    · have e : flyP s.iss w.a w.b w.c (s.ps.getD p default) = s.ps.getD p default := by simp only [flyP, if_neg hm]
      exact .N hfi hta (fun _ => hm) (.inl ⟨by rw [hg, e], by rw [hg, e]⟩) (by rw [hg, e]) (by rw [hg, e]) rfl
  by_cases k2 : w.kind = 2
  · obtain ⟨k, m, hk, hkl, hm, hml, ha, _⟩ := fit_facts hI hw k2
    simp only [HG.doDo, k2, Int.reduceEq, if_false, if_true]
    have hkh : k < s.hi.length := by rw [hI.hil]; exact hkl
    obtain ⟨ok, hok, _⟩ := get_ex hkh
    have hgo : s.hi.getD w.a.toNat none = ok := by rw [hk]; simp [List.getD, hok]
    have hta : w.takes p = false := by simp [Wk.takes, k2]
    unfold HG.fitDo
    rw [hgo]
    by_cases e : p = k
    · subst e
      have hfi : w.fits p = true := by simp [Wk.fits, k2, hk]
      have hmb : 0 ≤ w.b ∧ w.b < s.fl.length := by rw [hm]; omega
      cases ok with
      | none =>
        refine .F hfi ha ?_ ?_ ?_ ?_ hmb ?_
        · simp [hk, List.getD, hp]
        · simp [hk, List.getD, hp]
        · simp [hk, List.getD, hp]
        · simp [hk, List.getD, hp]
        · rw [rows_none hok]
          simp only [HG.rowsOf, hk, Int.toNat_natCast]
          simp [List.getD, hph, HG.stt]
      | some x =>
        obtain ⟨i0, m0⟩ := x
        have hi0 := hlt hok
        refine .F hfi ha ?_ ?_ ?_ ?_ hmb ?_
        · simp [hk, List.getD, hp]
        · simp [hk, List.getD, hp]
        · simp [hk, List.getD, hp]
        · simp [hk, List.getD, hp]
        · rw [rows_some hok]
          simp only [HG.rowsOf, hk, Int.toNat_natCast]
          simp [List.getD, hph, hi0, HG.stt]
    · have hfi : w.fits p = false := by
        have : ¬ w.a = (p : Int) := by rw [hk]; omega
        simp [Wk.fits, this]
      have hpn : k ≠ p := fun h => e h.symm
      cases ok with
      | none =>
        refine .N hfi hta (fun h => absurd h k1) (.inl ⟨?_, ?_⟩) ?_ ?_ ?_
        · simp [hk, List.getD, List.getElem?_set_ne hpn]
        · simp [hk, List.getD, List.getElem?_set_ne hpn]
        · simp [hk, List.getD, List.getElem?_set_ne hpn]
        · simp [hk, List.getD, List.getElem?_set_ne hpn]
        · cases o with
          | none =>
            rw [rows_none ho]
            simp only [HG.rowsOf, hk, Int.toNat_natCast]
            simp [List.getD, List.getElem?_set_ne hpn, ho]
          | some y =>
            obtain ⟨i1, m1⟩ := y
            rw [rows_some ho]
            have := hlt ho
            simp only [HG.rowsOf, hk, Int.toNat_natCast]
            simp [List.getD, List.getElem?_set_ne hpn, ho, List.getElem?_append_left this]
      | some x =>
        obtain ⟨i0, m0⟩ := x
        refine .N hfi hta (fun h => absurd h k1) (.inl ⟨?_, ?_⟩) ?_ ?_ ?_
        · simp [hk, List.getD, List.getElem?_set_ne hpn]
        · simp [hk, List.getD, List.getElem?_set_ne hpn]
        · simp [hk, List.getD, List.getElem?_set_ne hpn]
        · simp [hk, List.getD, List.getElem?_set_ne hpn]
        · cases o with
          | none =>
            rw [rows_none ho]
            simp only [HG.rowsOf, hk, Int.toNat_natCast]
            simp [List.getD, List.getElem?_set_ne hpn, ho]
          | some y =>
            obtain ⟨i1, m1⟩ := y
            rw [rows_some ho]
            have hne : i0 ≠ i1 := by
              rintro rfl
              exact hpn (hI.inj k p i0 m0 m1 hok ho)
            simp only [HG.rowsOf, hk, Int.toNat_natCast]
            simp [List.getD, List.getElem?_set_ne hpn, ho, List.getElem?_set_ne hne]
  have hfi : w.fits p = false := by simp [Wk.fits, k2]
  by_cases k5 : w.kind = 5
  · have hta : w.takes p = false := by simp [Wk.takes, k5]
    simp only [HG.doDo, k5, Int.reduceEq, if_false, if_true]
    have hg : ∀ f : PS → Int, (∀ (q : PS) (c : List Bool), f { q with chk := c } = f q) → f ((s.chkDo w.a w.b).ps.getD p default) = f (s.ps.getD p default) := by
      intro f hf
      by_cases e : w.a.toNat = p
      · subst e
        simp only [HG.chkDo]
        rw [getD_set_eq hp, hf]
      · simp only [HG.chkDo]
        rw [getD_set_ne e]
    exact .N hfi hta (fun h => absurd h k1) (.inl ⟨hg PS.a fun _ _ => rfl, hg PS.b fun _ _ => rfl⟩) (hg PS.hours fun _ _ => rfl) (hg PS.cycles fun _ _ => rfl) rfl
  by_cases k3 : w.kind = 3
  · have hf : s.takeOk w.a = true := by
      have := hw; simp only [HG.doOk, k3, Int.reduceEq, if_false, if_true, Bool.and_eq_true] at this; exact this.2
    simp only [HG.doDo, k3, Int.reduceEq, if_false, if_true]
    simp only [HG.takeOk, Bool.and_eq_true, decide_eq_true_eq] at hf
    obtain ⟨k, hk, hkl⟩ := withinB_nat (m := s.ps.length) (by rw [hI.psl]; omega) hf.1
    have ha := hf.2
    rw [hk, Int.toNat_natCast] at ha
    have hpk : s.ps[k]? = some (s.ps.getD k default) := by simp [List.getD, hkl]
    obtain ⟨i0, m0, hok⟩ : ∃ i m, s.hi[k]? = some (some (i, m)) := by
      rcases hI.pa k _ hpk with h | h | ⟨_, _, _, _, h⟩
      · omega
      · omega
      · exact h
    have hi0 := hlt hok
    have hh : s.hist w.a = i0 := by rw [hk]; simp [HG.hist, List.getD, hok]
    by_cases e : p = k
    · subst e
      have hta : w.takes p = true := by simp [Wk.takes, k3, hk]
      refine .T hta ha ?_ ?_ ?_ ?_
      · simp [HG.takeDo, HG.put, HG.endd, hk, List.getD, hp]
      · simp [HG.takeDo, HG.put, HG.endd, hk, List.getD, hp]
      · simp [HG.takeDo, HG.put, HG.endd, hk, List.getD, hp]
      · rw [rows_some hok]
        simp only [HG.takeDo, hh, HG.endd, HG.put, HG.rowsOf]
        simp [List.getD, hok, hi0]
    · have hta : w.takes p = false := by
        have : ¬ w.a = (p : Int) := by rw [hk]; omega
        simp [Wk.takes, this]
      have hpn : k ≠ p := fun h => e h.symm
      refine .N hfi hta (fun h => absurd h k1) (.inl ⟨?_, ?_⟩) ?_ ?_ ?_
      · simp [HG.takeDo, HG.put, HG.endd, hk, List.getD, List.getElem?_set_ne hpn]
      · simp [HG.takeDo, HG.put, HG.endd, hk, List.getD, List.getElem?_set_ne hpn]
      · simp [HG.takeDo, HG.put, HG.endd, hk, List.getD, List.getElem?_set_ne hpn]
      · simp [HG.takeDo, HG.put, HG.endd, hk, List.getD, List.getElem?_set_ne hpn]
      · cases o with
        | none => rw [rows_none ho]; simp only [HG.takeDo, HG.put, HG.endd, HG.rowsOf]; simp [List.getD, ho]
        | some y =>
          obtain ⟨i1, m1⟩ := y
          rw [rows_some ho]
          have hne : i0 ≠ i1 := by
            rintro rfl
            exact hpn (hI.inj k p i0 m0 m1 hok ho)
          simp only [HG.takeDo, hh, HG.endd, HG.put, HG.rowsOf]
          simp [List.getD, ho, List.getElem?_set_ne hne]
  have hta : w.takes p = false := by simp [Wk.takes, k3]
  by_cases k4 : w.kind = 4
  · simp only [HG.doDo, k4, Int.reduceEq, if_false, if_true]
    exact .N hfi hta (fun h => absurd h k1) (.inl ⟨rfl, rfl⟩) rfl rfl rfl
  by_cases k6 : w.kind = 6
  · have hf : s.scrapOk w.a = true := by
      have := hw; simp only [HG.doOk, k6, Int.reduceEq, if_false, if_true, Bool.and_eq_true] at this; exact this.2
    simp only [HG.doDo, k6, Int.reduceEq, if_false, if_true]
    simp only [HG.scrapOk, Bool.and_eq_true, beq_iff_eq] at hf
    by_cases e : w.a.toNat = p
    · rw [e] at hf
      refine .N hfi hta (fun h => absurd h k1) (.inr ⟨by rw [hf.2.1]; omega, ?_⟩) ?_ ?_ rfl
      · simp [HG.put, e, List.getD, hp]
      · simp [HG.put, e, List.getD, hp]
      · simp [HG.put, e, List.getD, hp]
    · refine .N hfi hta (fun h => absurd h k1) (.inl ⟨?_, ?_⟩) ?_ ?_ rfl
      · simp [HG.put, List.getD, List.getElem?_set_ne e]
      · simp [HG.put, List.getD, List.getElem?_set_ne e]
      · simp [HG.put, List.getD, List.getElem?_set_ne e]
      · simp [HG.put, List.getD, List.getElem?_set_ne e]
  · simp [HG.doOk, k1, k2, k5, k3, k4, k6] at hw
end Go.Sx
end
section
/- Parts: what the hangar's histories hold behind right works. No conditions. -/
set_option linter.unusedSimpArgs false
set_option linter.unusedSectionVars false
namespace Go.Sx

theorem endL_app (fl : List (Int × Int)) (to : Int) (xs : List Stt) (y : Stt) : endL fl to (xs ++ [y]) = xs ++ [y.close fl to] := by
  have e : (xs ++ [y]).length - 1 = xs.length := by simp
  simp only [endL, e]
  simp [List.set_append, List.getD]
/-- What holds of a hangar's histories behind the first n works. -/
structure His (r : Reg) (l : List Wk) (n : Nat) (s : HG) : Prop where
  fl : ∀ m : Nat, m < s.fl.length → s.fl.getD m (0, 0) = sumF l m 0 n
  flb : ∀ (m : Int) (i : Nat), 0 ≤ (sumF l m i n).1 ∧ (sumF l m i n).1 ≤ 100 * n ∧ 0 ≤ (sumF l m i n).2 ∧ (sumF l m i n).2 ≤ 100 * n
  rows : ∀ p, p < r.parts.length → s.rowsOf p = (fs l p n).map (rawF l p n)
  op : ∀ p, p < r.parts.length → 0 ≤ (s.ps.getD p default).a → ∃ pre i, fs l p n = pre ++ [i] ∧ toN l p i n = n ∧ (s.ps.getD p default).a = (wkAt l i).b ∧ (s.ps.getD p default).b = (wkAt l i).c ∧ ∀ j ∈ pre, toN l p j n < n
  cl : ∀ p, p < r.parts.length → (s.ps.getD p default).a < 0 → ∀ j ∈ fs l p n, toN l p j n < n
  ord : ∀ p, p < r.parts.length → ∀ i ∈ fs l p n, ∀ j ∈ fs l p n, j < i → toN l p j n < i
  us : ∀ p, p < r.parts.length → (s.ps.getD p default).hours = (r.parts.getD p default).hours + (ssum (stV l p n) (fs l p n)).1 ∧ (s.ps.getD p default).cycles = (r.parts.getD p default).cycles + (ssum (stV l p n) (fs l p n)).2
  meet : ∀ p p', p < r.parts.length → p' < r.parts.length → p ≠ p' → (r.parts.getD p default).kind = (r.parts.getD p' default).kind → ∀ i ∈ fs l p n, ∀ j ∈ fs l p' n, (wkAt l i).b = (wkAt l j).b → (wkAt l i).c = (wkAt l j).c → toN l p i n ≤ j ∨ toN l p' j n ≤ i
theorem His.new (r : Reg) (l : List Wk) : His r l 0 (HG.new r) := by
  have hA : ∀ p, p < r.parts.length → ((HG.new r).ps.getD p default) = PS.new r (r.parts.getD p default) := by
    intro p hp
    show (r.parts.map (PS.new r)).getD p default = _
    simp [List.getD, hp]
  refine ⟨fun m hm => ?_, fun m i => by simp [sumF], fun p hp => ?_, fun p hp ha => ?_, fun p hp _ j hj => ?_, fun p hp i hi => ?_, fun p hp => ?_, fun p p' _ _ _ _ i hi => ?_⟩
  · have hm' : m < r.machines.toNat := by simpa [HG.new] using hm
    show (List.replicate r.machines.toNat ((0 : Int), (0 : Int))).getD m (0, 0) = _
    simp [List.getD, List.getElem?_replicate, hm', sumF]
  · have : (HG.new r).hi[p]? = some none := by
      show (List.replicate r.parts.length (none : Option (Nat × Nat)))[p]? = _
      simp [List.getElem?_replicate, hp]
    rw [rows_none this]; rfl
  · rw [hA p hp] at ha
    have : (0 : Int) ≤ -1 := ha
    omega
  · simp [fs] at hj
  · simp [fs] at hi
  · rw [hA p hp]; simp [fs, ssum, PS.new]
  · simp [fs] at hi
theorem step_fl {s : HG} {w : Wk} (hw : s.doOk w = true) (k1 : w.kind ≠ 1) : (s.step w).fl = s.fl := by
  have hst : s.step w = { s.doDo w with wk := wadd s.wk 1 } := by simp only [HG.step, HG.after, hw, if_true]
  rw [hst]
  simp only [HG.doDo, k1, if_false]
  repeat' split
  all_goals first
    | rfl
    | (unfold HG.fitDo; split <;> rfl)
theorem fly_facts {s : HG} {r : Reg} {n : Nat} (hI : s.Inv r n) {w : Wk} (hw : s.doOk w = true) (k1 : w.kind = 1) : (∃ m : Nat, w.a = m ∧ m < s.fl.length) ∧ 0 ≤ w.b ∧ w.b ≤ 100 ∧ 0 ≤ w.c ∧ w.c ≤ 100 ∧ s.i.lacks w.a = [] := by
  obtain ⟨v1, v2, v3, v4, v5, v6, v7, v8⟩ := valid_facts hI.val
  have hf : s.flyOk w.a w.b w.c = true := by simpa [HG.doOk, k1] using hw
  simp only [HG.flyOk, Bool.and_eq_true, decide_eq_true_eq] at hf
  obtain ⟨f1, f2, f3, f4⟩ := hf
  simp only [withinB, decide_eq_true_eq] at f2 f3
  have hmm : ∃ m : Nat, w.a = m ∧ m < s.fl.length := withinB_nat (by have := hI.fl; omega) (by
    have : s.i.machine w.a = withinB w.a 0 (wsub r.machines 1) := by show withinB w.a 0 (wsub s.r.machines 1) = _; rw [hI.rg]
    rw [hI.fl, ← this]; exact f1)
  refine ⟨hmm, f2.1, f2.2, f3.1, f3.2, ?_⟩
  have hfl : s.i.flies w.a w.b w.c = true := by rw [← longest_flies f2.1 f2.2]; exact decide_eq_true f4
  simp only [HI.flies, Bool.and_eq_true, decide_eq_true_eq] at hfl
  exact hfl.1
theorem liv_le {r : Reg} {s : HG} {n : Nat} (hI : s.Inv r n) (hL : Liv r s) {p : Nat} (hp : p < r.parts.length) : 0 ≤ (s.ps.getD p default).hours ∧ (s.ps.getD p default).hours ≤ 100000 ∧ 0 ≤ (s.ps.getD p default).cycles ∧ (s.ps.getD p default).cycles ≤ 100000 := by
  obtain ⟨v1, v2, v3, v4, v5, v6, v7, v8⟩ := valid_facts hI.val
  have hpl : p < s.ps.length := by rw [hI.psl]; exact hp
  have e : s.ps[p]? = some (s.ps.getD p default) := by simp [List.getD, hpl]
  have hq := hL p _ e
  have hx := v7 _ (getD_mem hp)
  have hkm : (r.parts.getD p default).kind.toNat < r.kinds.length := by omega
  have hk := v6 _ (getD_mem hkm)
  have hmx : ∀ a b : Int, a ≤ 100000 → b ≤ 100000 → imax a b ≤ 100000 := fun a b h1 h2 => by unfold imax; split <;> omega
  have e1 := hmx _ _ (by omega : (r.kinds.getD (r.parts.getD p default).kind.toNat default).hours ≤ 100000) (by omega : (r.parts.getD p default).hours ≤ 100000)
  have e2 := hmx _ _ (by omega : (r.kinds.getD (r.parts.getD p default).kind.toNat default).cycles ≤ 100000) (by omega : (r.parts.getD p default).cycles ≤ 100000)
  have := hq.h0
  have := hq.h1
  have := hq.c0
  have := hq.c1
  omega
theorem at_none {x : HI} {k a b : Int} (h : x.at k a b < 0) {q : PS} (hq : q ∈ x.ps) (hk : q.kind = k) (ha : q.a = a) (hb : q.b = b) : False := by
  have h1 := idxZ_any x.ps (atIs k a b)
  have h2 : x.ps.any (atIs k a b) = true := List.any_eq_true.2 ⟨q, hq, by simp [atIs, hk, ha, hb]⟩
  rw [h2] at h1
  have h3 : 0 ≤ idxZ x.ps (atIs k a b) := of_decide_eq_true h1
  have h4 : x.at k a b = idxZ x.ps (atIs k a b) := rfl
  omega
theorem stV_new {l : List Wk} {p n : Nat} (h : (wkAt l n).kind ≠ 1) : stV l p (n + 1) n = (0, 0) := by
  rw [stV, toN_ge (Nat.le_refl _), sumF_next _ (Nat.le_refl _), sumF_ge _ (Nat.le_refl _)]
  simp [fl1, h]
theorem fits_kind {w : Wk} {p : Nat} (h : w.fits p = true) : w.kind = 2 ∧ w.a = p := by simpa [Wk.fits] using h
theorem takes_kind {w : Wk} {p : Nat} (h : w.takes p = true) : w.kind = 3 ∧ w.a = p := by simpa [Wk.takes] using h
theorem fs_yes {l : List Wk} {p n : Nat} (h : (wkAt l n).fits p = true) : fs l p (n + 1) = fs l p n ++ [n] := by simp only [fs]; rw [if_pos h]
theorem fs_no {l : List Wk} {p n : Nat} (h : (wkAt l n).fits p = false) : fs l p (n + 1) = fs l p n := by simp only [fs]; rw [if_neg (by rw [h]; simp)]
theorem His.step {s : HG} {r : Reg} {n : Nat} {l : List Wk} (hI : s.Inv r n) (hL : Liv r s) (h : His r l n s) (hn : n ≤ 1000) (hw : s.doOk (wkAt l n) = true) : His r l (n + 1) (s.step (wkAt l n)) := by
  have hI' := hI.step (by omega) hw
  obtain ⟨v1, v2, v3, v4, v5, v6, v7, v8⟩ := valid_facts hI.val
  have hP : ∀ p, p < r.parts.length → PStep (wkAt l n) s (s.step (wkAt l n)) p (s.ps.getD p default) ((s.step (wkAt l n)).ps.getD p default) := fun p hp => pstep hI hw (by rw [hI.psl]; exact hp)
  have hf1 : ∀ m, 0 ≤ (fl1 l m n).1 ∧ (fl1 l m n).1 ≤ 100 ∧ 0 ≤ (fl1 l m n).2 ∧ (fl1 l m n).2 ≤ 100 := by
    intro m
    unfold fl1
    split
    · rename_i hk
      have := fly_facts hI hw hk.1
      exact ⟨this.2.1, this.2.2.1, this.2.2.2.1, this.2.2.2.2.1⟩
    · simp
  have hmach : ∀ p, p < r.parts.length → ∀ q : PS, q = s.ps.getD p default → 0 ≤ q.a → ∃ m : Nat, q.a = m ∧ m < s.fl.length := by
    intro p hp q hq ha
    have hpl : p < s.ps.length := by rw [hI.psl]; exact hp
    have e : s.ps[p]? = some q := by rw [hq]; simp [List.getD, hpl]
    rcases hI.pa p q e with h1 | h1 | ⟨_, h2, _⟩
    · omega
    · omega
    · have := hI.fl; exact ⟨q.a.toNat, by omega, by omega⟩
  refine ⟨fun m hm => ?_, fun m i => ?_, fun p hp => ?_, fun p hp ha => ?_, fun p hp ha j hj => ?_, fun p hp i hi j hj hlt => ?_, fun p hp => ?_, fun p p' hp hp' hne hkk i hi j hj hb hc => ?_⟩
  · have hlen : (s.step (wkAt l n)).fl.length = s.fl.length := by have := hI.fl; have := hI'.fl; omega
    rw [hlen] at hm
    rw [sumF_next _ (Nat.zero_le _)]
    by_cases k1 : (wkAt l n).kind = 1
    · obtain ⟨⟨m0, e0, hm0⟩, b1, b2, b3, b4, _⟩ := fly_facts hI hw k1
      have hst : (s.step (wkAt l n)).fl = s.fl.set m0 (wadd (s.fl.getD m0 (0, 0)).1 (wkAt l n).b, wadd (s.fl.getD m0 (0, 0)).2 (wkAt l n).c) := by
        simp only [HG.step, HG.after, hw, if_true, HG.doDo, k1, HG.flyDo, e0, Int.toNat_natCast]
      rw [hst]
      have hfb := h.flb m0 0
      by_cases em : m0 = m
      · subst em
        rw [getD_set_eq hm0, h.fl m0 hm0]
        have e1 : fl1 l m0 n = ((wkAt l n).b, (wkAt l n).c) := by simp [fl1, k1, e0]
        rw [e1]
        have w1 : wadd (sumF l m0 0 n).1 (wkAt l n).b = (sumF l m0 0 n).1 + (wkAt l n).b := wrap_id (by omega) (by omega)
        have w2 : wadd (sumF l m0 0 n).2 (wkAt l n).c = (sumF l m0 0 n).2 + (wkAt l n).c := wrap_id (by omega) (by omega)
        rw [w1, w2]
      · rw [getD_set_ne em, h.fl m hm]
        have e1 : fl1 l m n = (0, 0) := by
          have : ¬ (m0 : Int) = m := by omega
          simp [fl1, e0, this]
        rw [e1]; simp
    · rw [step_fl hw k1, h.fl m hm]
      simp [fl1, k1]
  · have e1 := hf1 m
    have e2 := h.flb m i
    by_cases hin : i ≤ n
    · rw [sumF_next _ hin]
      simp only
      omega
    · rw [sumF_ge _ (by omega)]
      simp only
      omega
  · rcases hP p hp with ⟨h1, ha, ha', hb', hh, hc, hm, hr⟩ | ⟨h1, ha, ha', hh, hc, hr⟩ | ⟨h1, ha, ha', hb', hh, hc, hr⟩ | ⟨h1, h2, hk, hab, hh, hc, hr⟩
    · have hcl := h.cl p hp (by omega)
      obtain ⟨k, m, _, _, hb, hml, _⟩ := fit_facts hI hw (fits_kind h1).1
      rw [hr, h.rows p hp, fs_yes h1, List.map_append]
      congr 1
      · exact List.map_congr_left fun j hj => (rawF_cl (hcl j hj)).symm
      · simp only [List.map_cons, List.map_nil, List.cons.injEq, and_true, rawF, toN_ge (Nat.le_refl (n + 1))]
        rw [if_neg (by omega)]
        simp only [HG.stt, hI.wk, hb, Int.toNat_natCast, h.fl m hml]
    · obtain ⟨pre, i, e1, e2, e3, e4, e5⟩ := h.op p hp ha
      have hfn : (wkAt l n).fits p = false := by simp [Wk.fits, (takes_kind h1).1]
      have hin : i < n := (fs_lt (l := l) (p := p) (n := n) (by rw [e1]; simp)).1
      obtain ⟨m, em, hml⟩ := hmach p hp _ rfl ha
      rw [hr, h.rows p hp, fs_no hfn, e1, List.map_append, List.map_append, List.map_singleton, List.map_singleton, endL_app]
      congr 1
      · exact List.map_congr_left fun j hj => (rawF_cl (e5 j hj)).symm
      · have hbm : (wkAt l i).b = m := by omega
        have q1 := h.flb m 0
        have q2 := h.flb m i
        have q3 := sumF_split (l := l) (m : Int) (Nat.le_of_lt hin)
        have q4 : (sumF l m 0 n).1 = (sumF l m 0 i).1 + (sumF l m i n).1 := by rw [q3]
        have q5 : (sumF l m 0 n).2 = (sumF l m 0 i).2 + (sumF l m i n).2 := by rw [q3]
        have w1 : wsub (sumF l m 0 n).1 (sumF l m 0 i).1 = (sumF l m i n).1 := by
          have : wsub (sumF l m 0 n).1 (sumF l m 0 i).1 = (sumF l m 0 n).1 - (sumF l m 0 i).1 := wrap_id (by omega) (by omega)
          rw [this]; omega
        have w2 : wsub (sumF l m 0 n).2 (sumF l m 0 i).2 = (sumF l m i n).2 := by
          have : wsub (sumF l m 0 n).2 (sumF l m 0 i).2 = (sumF l m 0 n).2 - (sumF l m 0 i).2 := wrap_id (by omega) (by omega)
          rw [this]; omega
        have r1 : rawF l p n i = ⟨(wkAt l i).b, (wkAt l i).c, i, -1, (sumF l (wkAt l i).b 0 i).1, (sumF l (wkAt l i).b 0 i).2⟩ := by simp only [rawF]; rw [if_neg (by omega)]
        have r2 : rawF l p (n + 1) i = stF l p (n + 1) i := by simp only [rawF, toN_tk e2 hin h1]; rw [if_pos (by omega)]
        rw [r1, r2]
        simp only [Stt.close, stF, stV, toN_tk e2 hin h1, hbm, Int.toNat_natCast, h.fl m hml, w1, w2, hI.wk]
    · have hfn : (wkAt l n).fits p = false := by simp [Wk.fits, h1]
      have htn : (wkAt l n).takes p = false := by simp [Wk.takes, h1]
      rw [hr, h.rows p hp, fs_no hfn]
      exact List.map_congr_left fun j _ => (rawF_op htn).symm
    · rw [hr, h.rows p hp, fs_no h1]
      exact List.map_congr_left fun j _ => (rawF_op h2).symm
  · have hop : ∀ (hfn : (wkAt l n).fits p = false) (htn : (wkAt l n).takes p = false) (q' : PS), 0 ≤ (s.ps.getD p default).a → q'.a = (s.ps.getD p default).a → q'.b = (s.ps.getD p default).b →
        ∃ pre i, fs l p (n + 1) = pre ++ [i] ∧ toN l p i (n + 1) = n + 1 ∧ q'.a = (wkAt l i).b ∧ q'.b = (wkAt l i).c ∧ ∀ j ∈ pre, toN l p j (n + 1) < n + 1 := by
      intro hfn htn q' ha0 ea eb
      obtain ⟨pre, i, e1, e2, e3, e4, e5⟩ := h.op p hp ha0
      exact ⟨pre, i, by rw [fs_no hfn, e1], toN_op e2 htn, by rw [ea, e3], by rw [eb, e4], fun j hj => by rw [toN_cl (e5 j hj)]; have := e5 j hj; omega⟩
    rcases hP p hp with ⟨h1, ha1, ha', hb', hh, hc, hm, hr⟩ | ⟨h1, ha1, ha', hh, hc, hr⟩ | ⟨h1, ha1, ha', hb', hh, hc, hr⟩ | ⟨h1, h2, hk, hab, hh, hc, hr⟩
    · have hcl := h.cl p hp (by omega)
      exact ⟨fs l p n, n, fs_yes h1, toN_ge (Nat.le_refl _), ha', hb', fun j hj => by rw [toN_cl (hcl j hj)]; have := hcl j hj; omega⟩
    · omega
    · exact hop (by simp [Wk.fits, h1]) (by simp [Wk.takes, h1]) _ (by omega) ha' hb'
    · rcases hab with ⟨ea, eb⟩ | ⟨_, eb⟩
      · exact hop h1 h2 _ (by omega) ea eb
      · omega
  · rcases hP p hp with ⟨h1, ha1, ha', hb', hh, hc, hm, hr⟩ | ⟨h1, ha1, ha', hh, hc, hr⟩ | ⟨h1, ha1, ha', hb', hh, hc, hr⟩ | ⟨h1, h2, hk, hab, hh, hc, hr⟩
    · omega
    · have hfn : (wkAt l n).fits p = false := by simp [Wk.fits, (takes_kind h1).1]
      rw [fs_no hfn] at hj
      have hjn := (fs_lt hj).1
      rcases toN_cases (l := l) (p := p) j n with e | e
      · rw [toN_cl e]; omega
      · rw [toN_tk e hjn h1]; omega
    · obtain ⟨⟨m, em, _⟩, _⟩ := fly_facts hI hw h1
      omega
    · rw [fs_no h1] at hj
      have := h.cl p hp (by rcases hab with ⟨ea, _⟩ | ⟨ea, _⟩ <;> omega) j hj
      rw [toN_cl this]; omega
  · have key : ∀ i ∈ fs l p n, ∀ j ∈ fs l p n, j < i → toN l p j (n + 1) < i := by
      intro i hi j hj hlt
      have h1 := h.ord p hp i hi j hj hlt
      have h2 := (fs_lt hi).1
      rw [toN_cl (by omega)]; exact h1
    cases hf : (wkAt l n).fits p
    · rw [fs_no hf] at hi hj
      exact key i hi j hj hlt
    · rw [fs_yes hf] at hi hj
      rcases hP p hp with ⟨h1, ha1, ha', hb', hh, hc, hm, hr⟩ | ⟨h1, _⟩ | ⟨h1, _⟩ | ⟨h1, _⟩
      · have hcl := h.cl p hp (by omega)
        rcases List.mem_append.1 hi with hi | hi
        · rcases List.mem_append.1 hj with hj | hj
          · exact key i hi j hj hlt
          · simp only [List.mem_singleton] at hj
            have := (fs_lt hi).1
            omega
        · simp only [List.mem_singleton] at hi
          subst hi
          rcases List.mem_append.1 hj with hj | hj
          · rw [toN_cl (hcl j hj)]; exact hcl j hj
          · simp only [List.mem_singleton] at hj
            omega
      · have := (takes_kind h1).1; have := (fits_kind hf).1; omega
      · have := (fits_kind hf).1; omega
      · rw [hf] at h1; cases h1
  · obtain ⟨u1, u2⟩ := h.us p hp
    have hcong : ∀ L : List Nat, (∀ j ∈ L, j < n ∧ (toN l p j n < n ∨ (wkAt l n).takes p = true)) → ssum (stV l p (n + 1)) L = ssum (stV l p n) L := by
      intro L hLL
      refine ssum_congr fun j hj => ?_
      obtain ⟨a1, a2⟩ := hLL j hj
      rw [stV_next a1, if_neg]
      rintro ⟨b1, b2⟩
      rcases a2 with a2 | a2
      · omega
      · rw [a2] at b2; cases b2
    have hlast : ∀ (pre : List Nat) (i : Nat), fs l p n = pre ++ [i] → toN l p i n = n → (∀ j ∈ pre, toN l p j n < n) → (wkAt l n).fits p = false → (wkAt l n).takes p = false →
        ssum (stV l p (n + 1)) (fs l p (n + 1)) = ((ssum (stV l p n) (fs l p n)).1 + (fl1 l (wkAt l i).b n).1, (ssum (stV l p n) (fs l p n)).2 + (fl1 l (wkAt l i).b n).2) := by
      intro pre i e1 e2 e5 hfn htn
      have hm : ∀ j ∈ pre ++ [i], j < n := fun j hj => (fs_lt (l := l) (p := p) (by rw [e1]; exact hj)).1
      rw [fs_no hfn, e1, ssum_app, ssum_app, hcong pre fun j hj => ⟨hm j (by simp [hj]), .inl (e5 j hj)⟩]
      simp only [ssum]
      rw [stV_next (hm i (by simp)), if_pos ⟨e2, htn⟩]
      simp only [Prod.mk.injEq]
      omega
    rcases hP p hp with ⟨h1, ha1, ha', hb', hh, hc, hm, hr⟩ | ⟨h1, ha1, ha', hh, hc, hr⟩ | ⟨h1, ha1, ha', hb', hh, hc, hr⟩ | ⟨h1, h2, hk, hab, hh, hc, hr⟩
    · have hcl := h.cl p hp (by omega)
      have k2 := (fits_kind h1).1
      rw [hh, hc, fs_yes h1, ssum_app, hcong _ fun j hj => ⟨(fs_lt hj).1, .inl (hcl j hj)⟩]
      simp only [ssum]
      rw [stV_new (by omega)]
      simp only
      omega
    · have hfn : (wkAt l n).fits p = false := by simp [Wk.fits, (takes_kind h1).1]
      rw [hh, hc, fs_no hfn, hcong _ fun j hj => ⟨(fs_lt hj).1, .inr h1⟩]
      exact ⟨u1, u2⟩
    · obtain ⟨⟨m, em, _⟩, b1, b2, b3, b4, _⟩ := fly_facts hI hw h1
      obtain ⟨pre, i, e1, e2, e3, e4, e5⟩ := h.op p hp (by omega)
      have hv := liv_le hI hL hp
      have w1 : wadd (s.ps.getD p default).hours (wkAt l n).b = (s.ps.getD p default).hours + (wkAt l n).b := wrap_id (by omega) (by omega)
      have w2 : wadd (s.ps.getD p default).cycles (wkAt l n).c = (s.ps.getD p default).cycles + (wkAt l n).c := wrap_id (by omega) (by omega)
      have ef : fl1 l (wkAt l i).b n = ((wkAt l n).b, (wkAt l n).c) := by
        have : (wkAt l n).a = (wkAt l i).b := by omega
        simp [fl1, h1, this]
      rw [hh, hc, w1, w2, hlast pre i e1 e2 e5 (by simp [Wk.fits, h1]) (by simp [Wk.takes, h1]), ef]
      simp only
      omega
    · by_cases ha : (s.ps.getD p default).a < 0
      · have hcl := h.cl p hp ha
        rw [hh, hc, fs_no h1, hcong _ fun j hj => ⟨(fs_lt hj).1, .inl (hcl j hj)⟩]
        exact ⟨u1, u2⟩
      · obtain ⟨pre, i, e1, e2, e3, e4, e5⟩ := h.op p hp (by omega)
        have ef : fl1 l (wkAt l i).b n = (0, 0) := by
          unfold fl1
          rw [if_neg]
          rintro ⟨x1, x2⟩
          exact hk x1 (by omega)
        rw [hh, hc, hlast pre i e1 e2 e5 h1 h2, ef]
        simp only
        omega
  · have key : ∀ p p', p < r.parts.length → p' < r.parts.length → p ≠ p' → (r.parts.getD p default).kind = (r.parts.getD p' default).kind → (wkAt l n).fits p = true → ∀ j ∈ fs l p' n, (wkAt l n).b = (wkAt l j).b → (wkAt l n).c = (wkAt l j).c → toN l p' j (n + 1) ≤ n := by
      intro p p' hp hp' hne hkk hf j hj hb hc
      have hjn := (fs_lt hj).1
      rcases toN_cases (l := l) (p := p') j n with e | e
      · rw [toN_cl e]; omega
      · exfalso
        obtain ⟨k, m, ek, hkl, em, hml, _, hat⟩ := fit_facts hI hw (fits_kind hf).1
        have ekp : k = p := by have := (fits_kind hf).2; omega
        subst ekp
        have hpl' : p' < s.ps.length := by rw [hI.psl]; exact hp'
        have e1 : s.ps[k]? = some (s.ps.getD k default) := by simp [List.getD, hkl]
        have e2 : s.ps[p']? = some (s.ps.getD p' default) := by simp [List.getD, hpl']
        have ha : 0 ≤ (s.ps.getD p' default).a := by
          by_cases ha : 0 ≤ (s.ps.getD p' default).a
          · exact ha
          · have := h.cl p' hp' (by omega) j hj; omega
        obtain ⟨pre, i, g1, g2, g3, g4, g5⟩ := h.op p' hp' ha
        have hji : j = i := by
          rw [g1] at hj
          rcases List.mem_append.1 hj with hj | hj
          · have := g5 j hj; omega
          · simpa using hj
        subst hji
        exact at_none hat (q := s.ps.getD p' default) (List.mem_of_getElem? e2) (by rw [(hI.pk _ _ e1).1, (hI.pk _ _ e2).1, hkk]) (by rw [g3, hb]) (by rw [g4, hc])
    have mem : ∀ p i, i ∈ fs l p (n + 1) → i ∈ fs l p n ∨ (i = n ∧ (wkAt l n).fits p = true) := by
      intro p i hi
      cases hf : (wkAt l n).fits p
      · rw [fs_no hf] at hi; exact .inl hi
      · rw [fs_yes hf] at hi
        rcases List.mem_append.1 hi with hi | hi
        · exact .inl hi
        · exact .inr ⟨by simpa using hi, rfl⟩
    rcases mem p i hi with hi | ⟨e, hf⟩
    · rcases mem p' j hj with hj | ⟨e', hf'⟩
      · have hi2 := (fs_lt hi).1
        have hj2 := (fs_lt hj).1
        rcases h.meet p p' hp hp' hne hkk i hi j hj hb hc with x | x
        · exact .inl (by rw [toN_cl (by omega)]; exact x)
        · exact .inr (by rw [toN_cl (by omega)]; exact x)
      · subst e'
        exact .inl (key p' p hp' hp hne.symm hkk.symm hf' i hi hb.symm hc.symm)
    · subst e
      rcases mem p' j hj with hj | ⟨e', hf'⟩
      · exact .inr (key p p' hp hp' hne hkk hf j hj hb hc)
      · have := (fits_kind hf).2
        have := (fits_kind hf').2
        omega
end Go.Sx
end
section
/- Parts: the histories of right works. No conditions. -/
set_option linter.unusedSimpArgs false
set_option linter.unusedSectionVars false
namespace Go.Sx

theorem stT_his {r : Reg} {l : List Wk} (hv : r.valid = true) : ∀ k : Nat, k ≤ 1000 → (∀ j, j < k → okAt r l j = true) → His r l k (stT r l k)
  | 0, _, _ => His.new r l
  | k + 1, hk, h => (stT_his hv k (by omega) fun j hj => h j (by omega)).step (stT_inv hv k (by omega) fun j hj => h j (by omega)) (stT_liv hv k (by omega) fun j hj => h j (by omega)) (by omega) (h k (by omega))
theorem opE_his {r : Reg} {l : List Wk} (h : opE r l = 0) : His r l l.length (opH r l) := by
  obtain ⟨h1, h2, h3, _⟩ := opE_inv h
  exact stT_his h1 _ (by omega) h3
theorem opE_flb {r : Reg} {l : List Wk} (h : opE r l = 0) {t : Nat} (ht : t ≤ l.length) (m : Int) (i : Nat) : 0 ≤ (sumF l m i t).1 ∧ (sumF l m i t).1 ≤ 20000 ∧ 0 ≤ (sumF l m i t).2 ∧ (sumF l m i t).2 ≤ 20000 := by
  obtain ⟨h1, h2, h3, _⟩ := opE_inv h
  have := (stT_his (l := l) h1 t (by omega) fun j hj => h3 j (by omega)).flb m i
  omega
def HG.view (s : HG) (p : Nat) : List Stt := if 0 ≤ (s.ps.getD p default).a then endL s.fl s.wk (s.rowsOf p) else s.rowsOf p
theorem rawF_st {l : List Wk} {p n i : Nat} (h : toN l p i n < n) : rawF l p n i = stF l p n i := by simp only [rawF]; rw [if_pos h]
theorem opE_view {r : Reg} {l : List Wk} (h : opE r l = 0) {p : Nat} (hp : p < r.parts.length) : (opH r l).view p = refH l p l.length := by
  have hH := opE_his h
  obtain ⟨h1, h2, h3, hI⟩ := opE_inv h
  unfold HG.view refH
  rw [hH.rows p hp]
  by_cases ha : 0 ≤ ((opH r l).ps.getD p default).a
  · obtain ⟨pre, i, e1, e2, e3, e4, e5⟩ := hH.op p hp ha
    rw [if_pos ha, e1, List.map_append, List.map_append, List.map_singleton, List.map_singleton, endL_app]
    congr 1
    · exact List.map_congr_left fun j hj => rawF_st (e5 j hj)
    · have hpl : p < (opH r l).ps.length := by rw [hI.psl]; exact hp
      have e : (opH r l).ps[p]? = some ((opH r l).ps.getD p default) := by simp [List.getD, hpl]
      obtain ⟨m, em, hml⟩ : ∃ m : Nat, (wkAt l i).b = m ∧ m < (opH r l).fl.length := by
        rcases hI.pa p _ e with x | x | ⟨_, x, _⟩
        · omega
        · omega
        · have := hI.fl; exact ⟨(wkAt l i).b.toNat, by omega, by omega⟩
      have hin : i < l.length := (fs_lt (l := l) (p := p) (n := l.length) (by rw [e1]; simp)).1
      have q1 := hH.flb m 0
      have q2 := hH.flb m i
      have q3 := sumF_split (l := l) (m : Int) (Nat.le_of_lt hin)
      have q4 : (sumF l m 0 l.length).1 = (sumF l m 0 i).1 + (sumF l m i l.length).1 := by rw [q3]
      have q5 : (sumF l m 0 l.length).2 = (sumF l m 0 i).2 + (sumF l m i l.length).2 := by rw [q3]
      have w1 : wsub (sumF l m 0 l.length).1 (sumF l m 0 i).1 = (sumF l m i l.length).1 := by
        have : wsub (sumF l m 0 l.length).1 (sumF l m 0 i).1 = (sumF l m 0 l.length).1 - (sumF l m 0 i).1 := wrap_id (by omega) (by omega)
        rw [this]; omega
      have w2 : wsub (sumF l m 0 l.length).2 (sumF l m 0 i).2 = (sumF l m i l.length).2 := by
        have : wsub (sumF l m 0 l.length).2 (sumF l m 0 i).2 = (sumF l m 0 l.length).2 - (sumF l m 0 i).2 := wrap_id (by omega) (by omega)
        rw [this]; omega
      have r1 : rawF l p l.length i = ⟨(wkAt l i).b, (wkAt l i).c, i, -1, (sumF l (wkAt l i).b 0 i).1, (sumF l (wkAt l i).b 0 i).2⟩ := by simp only [rawF]; rw [if_neg (by omega)]
      rw [r1]
      simp only [Stt.close, stF, stV, e2, em, Int.toNat_natCast, hH.fl m hml, w1, w2, hI.wk]
  · rw [if_neg ha]
    exact List.map_congr_left fun j hj => rawF_st (hH.cl p hp (by omega) j hj)

/-- The first work behind i that takes a part, looked for from the last work on. -/
def nxT (l : List Wk) (p n : Nat) : Nat → Nat
  | 0 => n
  | d + 1 => if (wkAt l (n - 1 - d)).takes p = true then n - 1 - d else nxT l p n d
theorem toN_pred {l : List Wk} {p j : Nat} : ∀ {n}, j + 1 < n → toN l p j n = if (wkAt l (j + 1)).takes p = true then j + 1 else toN l p (j + 1) n
  | 0, h => by omega
  | n + 1, h => by
    by_cases e : j + 1 = n
    · subst e
      rw [toN_ge (i := j + 1) (Nat.le_refl _)]
      have := toN_ge (l := l) (p := p) (i := j) (n := j + 1) (Nat.le_refl _)
      cases ht : (wkAt l (j + 1)).takes p
      · rw [toN_op this ht, if_neg (by simp)]
      · rw [toN_tk this (by omega) ht, if_pos rfl]
    · have ih := toN_pred (l := l) (p := p) (j := j) (n := n) (by omega)
      by_cases ht : (wkAt l (j + 1)).takes p = true
      · rw [if_pos ht] at ih
        rw [if_pos ht, toN_cl (by omega), ih]
      · rw [if_neg ht] at ih
        rw [if_neg ht]
        rcases toN_cases (l := l) (p := p) (j + 1) n with h1 | h1
        · rw [toN_cl h1, toN_cl (by omega), ih]
        · cases htn : (wkAt l n).takes p
          · rw [toN_op h1 htn, toN_op (by omega) htn]
          · rw [toN_tk h1 (by omega) htn, toN_tk (by omega) (by omega) htn]
theorem nxT_toN {l : List Wk} {p n : Nat} : ∀ {d}, d + 1 ≤ n → nxT l p n d = toN l p (n - 1 - d) n
  | 0, h => by rw [toN_ge (by omega)]; rfl
  | d + 1, h => by
    have ih := nxT_toN (l := l) (p := p) (n := n) (d := d) (by omega)
    have e : n - 1 - d = (n - 1 - (d + 1)) + 1 := by omega
    have hp := toN_pred (l := l) (p := p) (j := n - 1 - (d + 1)) (n := n) (by omega)
    rw [← e] at hp
    rw [hp, ← ih]; rfl
theorem nxT_le {l : List Wk} {p n : Nat} : ∀ d, nxT l p n d ≤ n
  | 0 => Nat.le_refl _
  | d + 1 => by
    have := nxT_le (l := l) (p := p) (n := n) d
    simp only [nxT]; split <;> omega
theorem refH_len (l : List Wk) (p n : Nat) : (refH l p n).length ≤ n := by
  unfold refH; rw [List.length_map]; exact fs_len n
end Go.Sx
end
