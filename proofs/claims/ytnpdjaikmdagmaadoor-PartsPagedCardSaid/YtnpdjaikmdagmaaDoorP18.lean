/- A part of a proof; no conditions. -/
import Derived.Test.YtnpdjaikmdagmaaDoorP17
import Derived.Test.YtnpdjaikmdagmaaDoorP14
import Derived.Test.YtnpdjaikmdagmaaDoorP13
set_option linter.unusedSimpArgs false
set_option linter.unusedVariables false
set_option linter.unusedSectionVars false
section
/- Parts: a right work leaves true what holds of a hangar. No conditions. -/
set_option linter.unusedSimpArgs false
set_option linter.unusedSectionVars false
namespace Go.Sx

/-- A hangar behind a work. -/
def HG.step (s : HG) (w : Wk) : HG := { s.after w with wk := wadd s.wk 1 }
structure PS.Sim (p p' : PS) : Prop where
  kind : p'.kind = p.kind
  known : p'.known = p.known
  since : p'.since.length = p.since.length
  chk : p'.chk.length = p.chk.length
theorem PS.Sim.refl (p : PS) : p.Sim p := ⟨rfl, rfl, rfl, rfl⟩

theorem HG.Inv.upd {s s' : HG} {r : Reg} {n : Nat} (h : s.Inv r n) (e1 : s'.r = s.r) (e2 : s'.ps.length = s.ps.length)
    (e3 : ∀ (k : Nat) (p' : PS), s'.ps[k]? = some p' → ∃ p, s.ps[k]? = some p ∧ p.Sim p' ∧ ((p'.a = p.a ∧ p'.b = p.b) ∨ (p'.a = -1 ∧ p'.b = -1) ∨ (p'.a = -2 ∧ p'.b = -2)))
    (e4 : s'.iss.length = s.iss.length) (e5 : s'.fl.length = s.fl.length) (e6 : s'.wk = s.wk + 1) (e7 : s'.hi = s.hi) (e8 : s'.hb.length = s.hb.length)
    (e9 : ∀ (i : Nat) (l : List Stt), s.hb[i]? = some l → ∃ l', s'.hb[i]? = some l' ∧ l'.length = l.length ∧ ∀ t' ∈ l', ∃ t ∈ l, t'.machine = t.machine)
    (e10 : s'.hcl = true → s.hcl = true) : s'.Inv r (n + 1) := by
  refine ⟨by rw [e1]; exact h.rg, h.val, by rw [e2]; exact h.psl, fun k p' hp' => ?_, by rw [e4]; exact h.iss, by rw [e5]; exact h.fl, by rw [e6, h.wk]; rfl, by rw [e7, e2]; exact h.hil, fun k i m hk => ?_, fun k k' i m m' hk hk' => ?_, fun hc => by rw [e7]; exact h.cl (e10 hc), by rw [e8]; have := h.hbl; omega, fun i l' hl' => ?_, fun k p' hp' => ?_⟩
  · obtain ⟨p, hp, hs, _⟩ := e3 k p' hp'
    obtain ⟨p1, p2, p3, p4⟩ := h.pk k p hp
    exact ⟨by rw [hs.kind, p1], by rw [hs.known, p2], by rw [hs.since, p3], by rw [hs.chk, p4]⟩
  · rw [e7] at hk
    obtain ⟨l, l1, l2, l3, l4⟩ := h.hi k i m hk
    obtain ⟨l', m1, m2, m3⟩ := e9 i l l1
    refine ⟨l', m1, by omega, l3, fun t' ht' => ?_⟩
    obtain ⟨t, ht, et⟩ := m3 t' ht'
    rw [et]; exact l4 t ht
  · rw [e7] at hk hk'; exact h.inj k k' i m m' hk hk'
  · have : i < s.hb.length := by rw [← e8]; exact (List.getElem?_eq_some_iff.1 hl').1
    obtain ⟨l2, m1, m2, m3⟩ := e9 i _ (List.getElem?_eq_getElem this)
    rw [hl'] at m1
    cases m1
    have := h.hbs i _ (List.getElem?_eq_getElem this)
    omega
  · obtain ⟨p, hp, hs, ha⟩ := e3 k p' hp'
    rcases ha with ⟨a1, a2⟩ | ha | ha
    · rw [a1, a2, hs.kind, e7]; exact h.pa k p hp
    · exact .inl ha
    · exact .inr (.inl ha)

theorem wadd_wk {n : Nat} (hn : n ≤ 1000000) : wadd (n : Int) 1 = n + 1 := wrap_id (by omega) (by omega)
theorem endL_len (fl : List (Int × Int)) (to : Int) (l : List Stt) : (endL fl to l).length = l.length := by simp [endL]
theorem endL_machine {fl : List (Int × Int)} {to : Int} {l : List Stt} : ∀ t' ∈ endL fl to l, ∃ t ∈ l, t'.machine = t.machine := by
  intro t' ht'
  rcases List.mem_or_eq_of_mem_set ht' with h | h
  · exact ⟨t', h, rfl⟩
  · by_cases hl : l.length - 1 < l.length
    · exact ⟨_, getD_mem hl, by rw [h]; rfl⟩
    · have : l = [] := List.length_eq_zero_iff.1 (by omega)
      subst this
      simp [endL] at ht'
theorem getElem?_set_cases {α : Type} {l : List α} {i k : Nat} {x y : α} (h : (l.set i x)[k]? = some y) : (k = i ∧ y = x ∧ i < l.length) ∨ (k ≠ i ∧ l[k]? = some y) := by
  rw [List.getElem?_set] at h
  by_cases e : i = k
  · subst e
    rw [if_pos rfl] at h
    by_cases hl : i < l.length
    · rw [if_pos hl] at h; cases h; exact .inl ⟨rfl, rfl, hl⟩
    · rw [if_neg hl] at h; cases h
  · rw [if_neg e] at h; exact .inr ⟨fun h => e h.symm, h⟩
/-- Only the parts change. -/
theorem HG.Inv.upd0 {s s' : HG} {r : Reg} {n : Nat} (h : s.Inv r n) (e1 : s'.r = s.r) (e2 : s'.ps.length = s.ps.length)
    (e3 : ∀ (k : Nat) (p' : PS), s'.ps[k]? = some p' → ∃ p, s.ps[k]? = some p ∧ p.Sim p' ∧ ((p'.a = p.a ∧ p'.b = p.b) ∨ (p'.a = -1 ∧ p'.b = -1) ∨ (p'.a = -2 ∧ p'.b = -2)))
    (e4 : s'.iss.length = s.iss.length) (e5 : s'.fl.length = s.fl.length) (e6 : s'.wk = s.wk + 1) (e7 : s'.hi = s.hi) (e8 : s'.hb = s.hb) (e10 : s'.hcl = s.hcl) : s'.Inv r (n + 1) :=
  h.upd e1 e2 e3 e4 e5 e6 e7 (by rw [e8]) (fun i l hl => ⟨l, by rw [e8]; exact hl, rfl, fun t ht => ⟨t, ht, rfl⟩⟩) (fun hc => by rw [← e10]; exact hc)

theorem sim_set {l : List PS} {n : Nat} {q : PS} (hq : ∀ p, l[n]? = some p → p.Sim q ∧ ((q.a = p.a ∧ q.b = p.b) ∨ (q.a = -1 ∧ q.b = -1) ∨ (q.a = -2 ∧ q.b = -2))) :
    ∀ (k : Nat) (p' : PS), (l.set n q)[k]? = some p' → ∃ p, l[k]? = some p ∧ p.Sim p' ∧ ((p'.a = p.a ∧ p'.b = p.b) ∨ (p'.a = -1 ∧ p'.b = -1) ∨ (p'.a = -2 ∧ p'.b = -2)) := by
  intro k p' h
  rcases getElem?_set_cases h with ⟨rfl, rfl, hl⟩ | ⟨_, h⟩
  · have e : l[k]? = some l[k] := List.getElem?_eq_getElem hl
    exact ⟨l[k], e, hq _ e⟩
  · exact ⟨p', h, PS.Sim.refl _, .inl ⟨rfl, rfl⟩⟩

theorem HG.Inv.step {s : HG} {r : Reg} {n : Nat} (h : s.Inv r n) (hn : n ≤ 1000000) {w : Wk} (hw : s.doOk w = true) : (s.step w).Inv r (n + 1) := by
  have hwk : wadd s.wk 1 = s.wk + 1 := by rw [h.wk]; exact wadd_wk hn
  have hst : s.step w = { s.doDo w with wk := s.wk + 1 } := by simp only [HG.step, HG.after, hw, if_true, hwk]
  rw [hst]
  clear hst hwk
  obtain ⟨v1, v2, v3, v4, v5, v6, v7, v8⟩ := valid_facts h.val
  have hpart : ∀ m : Int, s.i.part m = true → ∃ k : Nat, m = k ∧ k < s.ps.length := fun m hm => withinB_nat (by rw [h.psl]; omega) hm
  by_cases k1 : w.kind = 1
  · simp only [HG.doDo, k1, if_true]
    refine h.upd0 rfl (by simp [HG.flyDo]) (fun k p' hp' => ?_) rfl (by simp [HG.flyDo]) rfl rfl rfl rfl
    have hp2 : (s.ps.map (flyP s.iss w.a w.b w.c))[k]? = some p' := hp'
    rw [List.getElem?_map] at hp2
    cases hq : s.ps[k]? with
    | none => rw [hq] at hp2; simp at hp2
    | some q =>
      rw [hq] at hp2
      simp only [Option.map_some, Option.some.injEq] at hp2
      subst hp2
      refine ⟨q, rfl, ?_, ?_⟩
      · unfold flyP; split
        · exact ⟨rfl, rfl, sinceTo_len _ _ _ _, rfl⟩
        · exact PS.Sim.refl _
      · unfold flyP; split <;> exact .inl ⟨rfl, rfl⟩
  by_cases k2 : w.kind = 2
  · have hf : s.fitOk w.a w.b w.c = true := by simpa [HG.doOk, k2] using hw
    simp only [HG.doDo, k2, Int.reduceEq, if_false, if_true]
    simp only [HG.fitOk, Bool.and_eq_true, beq_iff_eq, decide_eq_true_eq] at hf
    obtain ⟨f1, f2, f3, f4, f5, f6⟩ := hf
    obtain ⟨k, hk, hkl⟩ := hpart _ f1
    have hmm : ∃ m : Nat, w.b = m ∧ m < s.fl.length := withinB_nat (by have := h.fl; omega) (by
      have : s.i.machine w.b = withinB w.b 0 (wsub r.machines 1) := by show withinB w.b 0 (wsub s.r.machines 1) = _; rw [h.rg]
      rw [h.fl, ← this]; exact f2)
    obtain ⟨m, hm, hml⟩ := hmm
    have hml' : (m : Int) < r.machines := by rw [← h.fl]; omega
    obtain ⟨p, hp, hp'⟩ := get_ex hkl
    rw [hk] at f3 f4 f5 f6 ⊢
    simp only [Int.toNat_natCast, List.getD, hp, Option.getD_some] at f3 f4 f5 f6
    have hpl : 0 ≤ w.c ∧ w.c < (r.kinds.getD p.kind.toNat default).places := by
      have hkm : p.kind.toNat < r.kinds.length := by
        obtain ⟨p1, _⟩ := h.pk k p hp
        have := v7 _ (getD_mem (l := r.parts) (k := k) (by rw [← h.psl]; exact hkl))
        rw [p1]; omega
      have hb := v6 _ (getD_mem hkm)
      have e : (s.r.kinds[p.kind.toNat]?.getD default) = r.kinds.getD p.kind.toNat default := by rw [h.rg]; rfl
      rw [e] at f5
      have hw : wsub (r.kinds.getD p.kind.toNat default).places 1 = (r.kinds.getD p.kind.toNat default).places - 1 := wrap_id (by omega) (by omega)
      rw [hw] at f5
      simp only [withinB, decide_eq_true_eq] at f5
      omega
    have hdp : ∀ (p' : PS) (j : Nat), (s.ps.set k { p with a := w.b, b := w.c })[j]? = some p' → (j = k ∧ p' = { p with a := w.b, b := w.c }) ∨ (j ≠ k ∧ s.ps[j]? = some p') := by
      intro p' j hj
      rcases getElem?_set_cases hj with ⟨e1, e2, _⟩ | e
      · exact .inl ⟨e1, e2⟩
      · exact .inr e
    have hgp : s.ps.getD (k : Int).toNat default = p := by simp [List.getD, hp]
    have hstm : (s.stt w.b w.c).machine = w.b := rfl
    have hnh : k < s.hi.length := by rw [h.hil]; exact hkl
    obtain ⟨o, ho, ho'⟩ := get_ex hnh
    have hgo : s.hi.getD (k : Int).toNat none = o := by simp [List.getD, ho]
    unfold HG.fitDo
    rw [hgo, hgp]
    cases o with
    | none =>
      simp only [Int.toNat_natCast]
      refine ⟨h.rg, h.val, by simp [h.psl], fun j p' hj => ?_, h.iss, h.fl, by simp [h.wk], by simp [h.hil], fun j i mm hj => ?_, fun j j' i mm mm' hj hj' => ?_, fun hc => by simp at hc, by have := h.hbl; simp; omega, fun i l hl => ?_, fun j p' hj => ?_⟩
      · rcases hdp p' j hj with ⟨rfl, rfl⟩ | ⟨_, hj⟩
        · exact h.pk j p hp
        · exact h.pk j p' hj
      · rcases getElem?_set_cases hj with ⟨_, e, _⟩ | ⟨_, e⟩
        · cases e
          refine ⟨[s.stt w.b w.c], by simp, rfl, by omega, fun t ht => ?_⟩
          simp only [List.mem_singleton] at ht
          subst ht
          rw [hstm, hm]; omega
        · obtain ⟨l, l1, l2⟩ := h.hi j i mm e
          exact ⟨l, by rw [List.getElem?_append_left (List.getElem?_eq_some_iff.1 l1).1]; exact l1, l2⟩
      · have hlt : ∀ j i mm, s.hi[j]? = some (some (i, mm)) → i < s.hb.length := fun j i mm e => by
          obtain ⟨l, l1, _⟩ := h.hi j i mm e; exact (List.getElem?_eq_some_iff.1 l1).1
        rcases getElem?_set_cases hj with ⟨e0, e, _⟩ | ⟨_, e⟩ <;> rcases getElem?_set_cases hj' with ⟨e0', e', _⟩ | ⟨_, e'⟩
        · omega
        · cases e; have := hlt _ _ _ e'; omega
        · cases e'; have := hlt _ _ _ e; omega
        · exact h.inj j j' i mm mm' e e'
      · by_cases hi : i < s.hb.length
        · simp only [List.getElem?_append_left hi] at hl
          have := h.hbs i l hl; omega
        · rw [List.getElem?_append_right (by omega)] at hl
          have : l = [s.stt w.b w.c] := by
            cases hd : i - s.hb.length with
            | zero => rw [hd] at hl; simpa using hl.symm
            | succ x => rw [hd] at hl; simp at hl
          subst this; simp
      · rcases hdp p' j hj with ⟨rfl, rfl⟩ | ⟨hne, hj⟩
        · exact .inr (.inr ⟨by simp only [hm]; omega, by simp only [hm]; exact hml', hpl.1, hpl.2, s.hb.length, 1, by simp [hnh]⟩)
        · rcases h.pa j p' hj with h1 | h1 | ⟨h1, h2, h3, h4, i, mm, h5⟩
          · exact .inl h1
          · exact .inr (.inl h1)
          · exact .inr (.inr ⟨h1, h2, h3, h4, i, mm, by rw [List.getElem?_set_ne (Ne.symm hne)]; exact h5⟩)
    | some x =>
      obtain ⟨i0, m0⟩ := x
      simp only [Int.toNat_natCast]
      obtain ⟨l0, y1, y2, y3, y4⟩ := h.hi k i0 m0 ho
      have hgb : s.hb.getD i0 [] = l0 := by simp [List.getD, y1]
      have hi0 : i0 < s.hb.length := (List.getElem?_eq_some_iff.1 y1).1
      rw [hgb]
      have hl0 := h.hbs i0 l0 y1
      refine ⟨h.rg, h.val, by simp [h.psl], fun j p' hj => ?_, h.iss, h.fl, by simp [h.wk], by simp [h.hil], fun j i mm hj => ?_, fun j j' i mm mm' hj hj' => ?_, fun hc => by simp at hc, by have := h.hbl; simp; omega, fun i l hl => ?_, fun j p' hj => ?_⟩
      · rcases hdp p' j hj with ⟨rfl, rfl⟩ | ⟨_, hj⟩
        · exact h.pk j p hp
        · exact h.pk j p' hj
      · rcases getElem?_set_cases hj with ⟨_, e, _⟩ | ⟨hne, e⟩
        · cases e
          refine ⟨l0 ++ [s.stt w.b w.c], by simp [hi0], by simp [y2], by omega, fun t ht => ?_⟩
          rcases List.mem_append.1 ht with ht | ht
          · exact y4 t ht
          · simp only [List.mem_singleton] at ht
            subst ht
            rw [hstm, hm]; omega
        · obtain ⟨l, l1, l2⟩ := h.hi j i mm e
          have hii : i0 ≠ i := by
            rintro rfl
            exact hne (h.inj j k i0 mm m0 e ho)
          exact ⟨l, by simp only [List.getElem?_set_ne hii]; exact l1, l2⟩
      · rcases getElem?_set_cases hj with ⟨e0, e, _⟩ | ⟨hne, e⟩ <;> rcases getElem?_set_cases hj' with ⟨e0', e', _⟩ | ⟨hne', e'⟩
        · omega
        · cases e; exact absurd (h.inj j' k _ _ _ e' ho) hne'
        · cases e'; exact absurd (h.inj j k _ _ _ e ho) hne
        · exact h.inj j j' i mm mm' e e'
      · rcases getElem?_set_cases hl with ⟨_, e, _⟩ | ⟨_, e⟩
        · subst e; simp; omega
        · have := h.hbs i l e; omega
      · rcases hdp p' j hj with ⟨rfl, rfl⟩ | ⟨hne, hj⟩
        · exact .inr (.inr ⟨by simp only [hm]; omega, by simp only [hm]; exact hml', hpl.1, hpl.2, i0, m0 + 1, by simp [hnh]⟩)
        · rcases h.pa j p' hj with h1 | h1 | ⟨h1, h2, h3, h4, i, mm, h5⟩
          · exact .inl h1
          · exact .inr (.inl h1)
          · exact .inr (.inr ⟨h1, h2, h3, h4, i, mm, by rw [List.getElem?_set_ne (Ne.symm hne)]; exact h5⟩)
  by_cases k5 : w.kind = 5
  · have hf : s.chkOk w.a w.b = true := by
      have := hw; simp only [HG.doOk, k5, Int.reduceEq, if_false, if_true, Bool.and_eq_true] at this; exact this.2
    simp only [HG.doDo, k5, Int.reduceEq, if_false, if_true]
    simp only [HG.chkOk, Bool.and_eq_true] at hf
    obtain ⟨k, hk, hkl⟩ := hpart _ hf.1
    rw [hk]
    refine h.upd0 rfl (by simp [HG.chkDo]) (sim_set fun p hp => ?_) rfl rfl rfl rfl rfl rfl
    have hg : s.ps.getD (k : Int).toNat default = p := by simpa [List.getD] using congrArg (Option.getD · default) hp
    rw [hg]
    exact ⟨⟨rfl, rfl, rfl, by simp⟩, .inl ⟨rfl, rfl⟩⟩
  by_cases k3 : w.kind = 3
  · have hf : s.takeOk w.a = true := by
      have := hw; simp only [HG.doOk, k3, Int.reduceEq, if_false, if_true, Bool.and_eq_true] at this; exact this.2
    simp only [HG.doDo, k3, Int.reduceEq, if_false, if_true]
    refine h.upd rfl (by simp [HG.takeDo, HG.put, HG.endd]) (sim_set fun p hp => ?_) rfl rfl rfl rfl (by simp [HG.takeDo, HG.put, HG.endd]) (fun i l hl => ?_) (fun hc => hc)
    · have hg : s.ps.getD w.a.toNat default = p := by simpa [List.getD] using congrArg (Option.getD · default) hp
      rw [hg]
      exact ⟨⟨rfl, rfl, rfl, rfl⟩, .inr (.inl ⟨rfl, rfl⟩)⟩
    · show ∃ l', (s.hb.set (s.hist w.a) (endL s.fl s.wk (s.hb.getD (s.hist w.a) [])))[i]? = some l' ∧ _
      by_cases e : s.hist w.a = i
      · subst e
        have hlt := (List.getElem?_eq_some_iff.1 hl).1
        have hg : s.hb.getD (s.hist w.a) [] = l := by simp [List.getD, hl]
        exact ⟨endL s.fl s.wk l, by rw [hg]; simp [hlt], endL_len _ _ _, endL_machine⟩
      · exact ⟨l, by rw [List.getElem?_set_ne e]; exact hl, rfl, fun t ht => ⟨t, ht, rfl⟩⟩
  by_cases k4 : w.kind = 4
  · simp only [HG.doDo, k4, Int.reduceEq, if_false, if_true]
    exact h.upd0 rfl rfl (fun k p' hp' => ⟨p', hp', PS.Sim.refl _, .inl ⟨rfl, rfl⟩⟩) (by simp [HG.issueDo]) rfl rfl rfl rfl rfl
  by_cases k6 : w.kind = 6
  · simp only [HG.doDo, k6, Int.reduceEq, if_false, if_true]
    refine h.upd0 rfl (by simp [HG.put]) (sim_set fun p hp => ?_) rfl rfl rfl rfl rfl rfl
    have hg : s.ps.getD w.a.toNat default = p := by simpa [List.getD] using congrArg (Option.getD · default) hp
    rw [hg]
    exact ⟨⟨rfl, rfl, rfl, rfl⟩, .inr (.inr ⟨rfl, rfl⟩)⟩
  · simp [HG.doOk, k1, k2, k5, k3, k4, k6] at hw
end Go.Sx
end
section
/- Parts: a hangar behind all works. No conditions. -/
set_option linter.unusedSimpArgs false
set_option linter.unusedSectionVars false
set_option maxRecDepth 100000
set_option maxHeartbeats 2000000
namespace Go.Sx
open Go.Proofs
attribute [local irreducible] HLe
attribute [local simp] hps_app

theorem after_wk (s : HG) (w : Wk) : (s.after w).wk = s.wk := by
  unfold HG.after; split
  · unfold HG.doDo; repeat' split
    all_goals first | rfl | (unfold HG.fitDo; split <;> rfl)
  · rfl
/-- The hangar behind the first k works. -/
def stT (r : Reg) (l : List Wk) : Nat → HG
  | 0 => HG.new r
  | k + 1 => (stT r l k).step (l.getD k default)
def okAt (r : Reg) (l : List Wk) (k : Nat) : Bool := (stT r l k).doOk (l.getD k default)
theorem stT_inv {r : Reg} {l : List Wk} (hv : r.valid = true) : ∀ k : Nat, k ≤ 1000000 → (∀ j, j < k → okAt r l j = true) → (stT r l k).Inv r k
  | 0, _, _ => HG.Inv.new hv
  | k + 1, hk, h => (stT_inv hv k (by omega) fun j hj => h j (by omega)).step (by omega) (h k (by omega))
/-- The first work that is not possible; -1: none. -/
def badAt (r : Reg) (l : List Wk) : Int := idxZ (List.range l.length) fun j => !okAt r l j
theorem badAt_at {r : Reg} {l : List Wk} {k : Nat} (hk : k < l.length) (h : okAt r l k = false) (hall : ∀ j, j < k → okAt r l j = true) : badAt r l = k :=
  idxZ_at _ _ (by simpa using hk) (by simpa using h) fun j _ hj => by simpa using hall j hj
theorem badAt_none {r : Reg} {l : List Wk} (hall : ∀ j, j < l.length → okAt r l j = true) : badAt r l = -1 :=
  idxZ_none _ _ fun j hj => by simpa using hall j (by simpa using hj)
def opE (r : Reg) (l : List Wk) : Int := if r.valid = true then (if l.length ≤ 200 then (if badAt r l < 0 then 0 else 91) else 2) else 90
def opA (r : Reg) (l : List Wk) : Int := if r.valid = true then (if l.length ≤ 200 then (if badAt r l < 0 then 0 else badAt r l) else 0) else 0
def opH (r : Reg) (l : List Wk) : HG := stT r l l.length
structure RL where
  r : Reg
  l : List Wk
  deriving Inhabited
@[simp] def rlE (d : RL) : List V := [.agg d.r.row, .sl 4 (d.l.map Wk.row)]
theorem rlE_inj (a b : RL) (h : rlE a = rlE b) : a = b := by
  obtain ⟨r, l⟩ := a; obtain ⟨r', l'⟩ := b
  simp only [rlE, List.cons.injEq, V.agg.injEq, V.sl.injEq, true_and, and_true] at h
  rw [Reg.row_inj _ _ h.1, map_inj Wk.row_inj h.2]
theorem rlE_dec (r : Reg) (l : List Wk) : decC rlE [.agg r.row, .sl 4 (l.map Wk.row)] = ⟨r, l⟩ := decC_eq rlE_inj ⟨r, l⟩
theorem rlE_dec' (r : Reg) (l : List Wk) : decC rlE [.agg [.sl 3 (r.kinds.map Kd.row), .sl 4 (r.parts.map Pt.row), .int .i64 r.machines, .sl 2 (r.orders.map Od.row)], .sl 4 (l.map Wk.row)] = ⟨r, l⟩ := rlE_dec r l
def RL.Fine (d : RL) : Prop := d.r.kinds.length ≤ 9223372036854775807 ∧ d.r.parts.length ≤ 9223372036854775807 ∧ d.r.orders.length ≤ 9223372036854775807 ∧ d.l.length ≤ 9223372036854775807
noncomputable abbrev openS : PSpec := mkP rlE RL.Fine fun d => .tup [if opE d.r d.l = 0 then (opH d.r d.l).i.v else .nilp, .int .i64 (opA d.r d.l), .int .i64 (opE d.r d.l)]
theorem do_go' (s : HG) (w : Wk) (h : Hp) : doS.go [.bptr 6019 0 1 0 0, .agg [.int .i64 w.kind, .int .i64 w.a, .int .i64 w.b, .int .i64 w.c]] (Ob hgL s h) = ⟨s.Ok ∧ Blank doOwn (Ob hgL s h), .bool (s.doOk w), Ob hgL (s.after w) (bmp doOwn 1 (Ob hgL s h))⟩ := do_go s w h
theorem regE_dec' (r : Reg) : decC regE [.agg [.sl 3 (r.kinds.map Kd.row), .sl 4 (r.parts.map Pt.row), .int .i64 r.machines, .sl 2 (r.orders.map Od.row)]] = r := regE_dec r
theorem new_go' (r : Reg) (h : Hp) : newS.go [.agg [.sl 3 (r.kinds.map Kd.row), .sl 4 (r.parts.map Pt.row), .int .i64 r.machines, .sl 2 (r.orders.map Od.row)]] h = ⟨r.Small ∧ Fresh h ∧ Blank newOwn h, .bptr 6019 0 1 0 0, Ob hgL (HG.new r) (bmp newOwn 1000000 h)⟩ := new_go r h
@[simp] theorem lend1_nilp (h : Hp) : lend1 h .nilp = (True, .nilp) := rfl
theorem small_of {r : Reg} (h : r.valid = true) : r.Small := by
  obtain ⟨v1, v2, v3, v4, v5, _⟩ := valid_facts h
  exact ⟨by omega, by omega, by omega, by omega, by omega⟩
noncomputable abbrev E35 : Env := { P := Tryd.prog, fn := tbl [(59, .pure validS), (60, .heap newS), (61, .heap doS)], own := [], key := 3500, nt := 38 }
theorem b35 : PureBody E35 [] Tryd.f35 openS := by
  refine pb ?_
  rintro ⟨r, l⟩ ⟨b1, b2, b3, b4⟩
  simp only at b1 b2 b3 b4
  cases c1 : r.valid
  · have hE : opE r l = 90 := by simp [opE, c1]
    have hA : opA r l = 0 := by simp [opA, c1]
    simp -dsimp [Tryd.f35, E35, Reg.row, -lendN, -lend1]
    repeat' (first | omega | (simp -dsimp [E35, ri, cellp, ints, -lendN, -lend1, b1, b2, b3, regE_dec', Reg.row, c1, hE, hA]) | (refine Also.intro ?_ fun _ => ?_) | (refine Hold.intro fun _ => ?_) | (refine And.intro ?_ ?_))
  by_cases c2 : l.length ≤ 200
  case neg =>
    have hE : opE r l = 2 := by simp [opE, c1, c2]
    have hA : opA r l = 0 := by simp [opA, c1, c2]
    have c2' : (200 : Int) < l.length := by omega
    simp -dsimp [Tryd.f35, E35, Reg.row, -lendN, -lend1]
    repeat' (first | omega | (simp -dsimp [E35, ri, cellp, ints, -lendN, -lend1, b1, b2, b3, regE_dec', Reg.row, c1, c2', hE, hA]) | (refine Also.intro ?_ fun _ => ?_) | (refine Hold.intro fun _ => ?_) | (refine And.intro ?_ ?_))
  have c2' : ¬ (200 : Int) < l.length := by omega
  have hFr : ∀ S : Site, Fresh (hps [(3502, S)] noH) := by
    intro S k hk; simp only [hkeys, List.mem_cons, List.not_mem_nil, or_false] at hk
    rcases hk with rfl | rfl | rfl | rfl | rfl | rfl | rfl | rfl | rfl <;> simp
  have hBl : ∀ S : Site, Blank newOwn (hps [(3502, S)] noH) := by
    intro S k hk; simp only [newOwn, List.mem_cons, List.not_mem_nil, or_false] at hk
    rcases hk with rfl | rfl | rfl <;> simp
  have hsm := small_of c1
  simp -dsimp [Tryd.f35, E35, Reg.row, -lendN, -lend1]
  repeat' (first | omega | (simp -dsimp [E35, ri, cellp, ints, -lendN, -lend1, b1, b2, b3, regE_dec', Reg.row, c1, c2', new_go', hsm, hFr, hBl, bmp]) | (refine Also.intro ?_ fun _ => ?_) | (refine Hold.intro fun _ => ?_) | (refine And.intro ?_ ?_))
  refine awp_loop [20, 21, 22, 23, 8, 7, 24, 25, 26, 27, 28, 4, 5, 6, 29, 30, 31, 32, 33, 34, 35, 36, 19] (fun k : { k : Nat // k ≤ l.length ∧ ∀ j, j < k → okAt r l j = true } => [(4, (true, .bptr 6019 0 1 0 0)), (5, (true, .int .i64 0)), (6, (true, .int .i64 0)), (19, (true, .int .i64 (k.1 : Nat)))])
    (fun k => Ob hgL (stT r l k.1) (hps [(3508, { base := k.1, blks := [] }), (6103, { base := k.1, blks := [] }), (9510, { base := k.1, blks := [] }), (3502, { base := 1, blks := [] }), (6001, { base := 1000000, blks := [] }), (6005, { base := 1000000, blks := [] }), (6044, { base := 1000000, blks := [] })] noH)) (fun k => l.length - k.1) ⟨0, by omega, fun j hj => by omega⟩ ?_ ?_ ?_
  · simp [okAll, okv]
  · exact (by (try simp -dsimp only [hpush_hps, hps_app, List.cons_append, List.nil_append, hps_over]); refine ob_hle ?_; simp -dsimp [allK, ]; repeat' (first | (refine And.intro ?_ ?_) | (refine sLe.same ?_ ?_ <;> (simp; done)) | (refine sLe.clear ?_ ?_ <;> (first | (simp; done) | (simp; omega))) | (refine sLe.drop 1 ?_ ?_ ?_ <;> (simp; done))))
  rintro ⟨k, hk, hall⟩
  simp only
  have hI := stT_inv (l := l) c1 k (by omega) hall
  have hOk := hI.ok (by omega)
  by_cases hk1 : k < l.length
  · have hki : (k : Int) < l.length := by omega
    have wk : IntKind.wrap .i64 ((k : Int) + 1) = (k + 1 : Nat) := wrap_id (by omega) (by omega)
    obtain ⟨w, hw, hw'⟩ := get_ex hk1
    have hg : l.getD k default = w := by simp [List.getD, hw]
    have hok : okAt r l k = (stT r l k).doOk w := by simp only [okAt, hg]
    have hst : stT r l (k + 1) = { (stT r l k).after w with wk := IntKind.wrap .i64 (((stT r l k).after w).wk + 1) } := by simp only [stT, hg, HG.step, wadd, after_wk]
    generalize hS : stT r l k = S at *
    have hbl : ∀ (S : HG) (X : Site) (a b : Nat), Blank doOwn (Ob hgL S (hps [(3508, X), (6103, { base := a, blks := [] }), (9510, { base := b, blks := [] }), (3502, { base := 1, blks := [] }), (6001, { base := 1000000, blks := [] }), (6005, { base := 1000000, blks := [] }), (6044, { base := 1000000, blks := [] })] noH)) := by
      intro S X a b k hk
      simp only [doOwn, List.mem_cons, List.not_mem_nil, or_false] at hk
      rcases hk with rfl | rfl <;> simp
    cases hd : S.doOk w
    · have hba : badAt r l = k := badAt_at hk1 (by rw [hok, hd]) hall
      have hE : opE r l = 91 := by simp [opE, c1, c2, hba] <;> omega
      have hA : opA r l = k := by simp [opA, c1, c2, hba] <;> omega
      simp -dsimp [hki, -lendN, -lend1]
      repeat' (first | omega | (simp -dsimp [E35, ri, cellp, ints, -lendN, -lend1, hki, hk1, hw, hw', Wk.row, do_go', hOk, hbl, bmp, g_hset, hd, hE, hA]) | (refine Also.intro ?_ fun _ => ?_) | (refine Hold.intro fun _ => ?_) | (refine And.intro ?_ ?_))
    · have hall' : ∀ j, j < k + 1 → okAt r l j = true := fun j hj => by
        by_cases e : j = k
        · subst e; rw [hok, hd]
        · exact hall j (by omega)
      generalize hS' : S.after w = S' at *
      have hww := fun h => w_wk (s := S') (h := h) (IntKind.wrap .i64 (S'.wk + 1))
      rw [← hst] at hww
      simp -dsimp [hki, -lendN, -lend1]
      repeat' (first | omega | (simp -dsimp [E35, ri, cellp, ints, -lendN, -lend1, hki, hk1, hw, hw', Wk.row, do_go', hOk, hbl, bmp, g_hset, hd, hS', hww, wk]) | (refine Also.intro ?_ fun _ => ?_) | (refine Hold.intro fun _ => ?_) | (refine And.intro ?_ ?_))
      refine ⟨k + 1, tle_chain rfl ?_, (by (try simp -dsimp only [hpush_hps, hps_app, List.cons_append, List.nil_append, hps_over]); refine ob_hle ?_; simp -dsimp [allK, ]; repeat' (first | (refine And.intro ?_ ?_) | (refine sLe.same ?_ ?_ <;> (simp; done)) | (refine sLe.clear ?_ ?_ <;> (first | (simp; done) | (simp; omega))) | (refine sLe.drop 1 ?_ ?_ ?_ <;> (simp; done)))), ⟨by omega, hall'⟩, by omega⟩
      simp [okAll, okv]
  · have hkn : ¬ (k : Int) < l.length := by omega
    have hke : k = l.length := by omega
    subst hke
    have hba : badAt r l = -1 := badAt_none hall
    have hE : opE r l = 0 := by simp [opE, c1, c2, hba]
    have hA : opA r l = 0 := by simp [opA, c1, c2, hba]
    have hHk := hOk.hok
    simp -dsimp [hkn, -lendN, -lend1]
    repeat' (first | omega | (simp -dsimp [E35, ri, cellp, ints, -lendN, -lend1, hkn, hE, hA, opH, hHk, HI.v]) | (refine Also.intro ?_ fun _ => ?_) | (refine Hold.intro fun _ => ?_) | (refine And.intro ?_ ?_))
theorem ok35 : FnOK Tryd.prog 35 (.pure openS) := pure_fn (E := E35) rfl (.cons ok59 (.cons ok60 (.cons ok61 .nil))) (ok := []) (fn := Tryd.f35) (by kernel_rfl) (by kernel_rfl) (by kernel_rfl) (by kernel_rfl) rfl (fun _ _ => by simp) b35
end Go.Sx
end
section
/- Parts: Check, Used, Where, Left, Lacks, Longest, Due. No conditions. -/
set_option linter.unusedSimpArgs false
set_option linter.unusedSectionVars false
set_option maxRecDepth 100000
set_option maxHeartbeats 2000000
namespace Go.Sx
open Go.Proofs
attribute [local irreducible] HLe
attribute [local simp] hps_app

theorem opE_inv {r : Reg} {l : List Wk} (h : opE r l = 0) : r.valid = true ∧ l.length ≤ 200 ∧ (∀ j, j < l.length → okAt r l j = true) ∧ (opH r l).Inv r l.length := by
  unfold opE at h
  split at h
  · rename_i h1
    split at h
    · rename_i h2
      split at h
      · rename_i h3
        have : ∀ j, j < l.length → okAt r l j = true := by
          intro j hj
          have hz := idxZ_any (List.range l.length) fun j => !okAt r l j
          have e : decide (0 ≤ idxZ (List.range l.length) fun j => !okAt r l j) = false := by
            have : idxZ (List.range l.length) (fun j => !okAt r l j) = badAt r l := rfl
            rw [this]; simp; omega
          rw [e] at hz
          have := List.any_eq_false.1 hz.symm j (by simpa using hj)
          simpa using this
        exact ⟨h1, h2, this, stT_inv h1 _ (by omega) this⟩
      · omega
    · omega
  · omega
theorem opE_ok {r : Reg} {l : List Wk} (h : opE r l = 0) : (opH r l).Ok := (opE_inv h).2.2.2.ok (by have := (opE_inv h).2.1; omega)
noncomputable abbrev checkFS : PSpec := mkP rlE RL.Fine fun d => .tup [.int .i64 (opA d.r d.l), .int .i64 (opE d.r d.l)]
@[simp] def ptOE (p : PS) : List V := [ptI p]
theorem ptOE_inj (a b : PS) (h : ptOE a = ptOE b) : a = b := ptI_inj _ _ (by simpa using h)
theorem ptOE_dec (p : PS) : decC ptOE [.ip 8 [[.int .i64 p.kind, .int .i64 p.hours, .int .i64 p.cycles, .bool p.known, .int .i64 p.a, .int .i64 p.b, .sl 1 (p.since.map ri), .sl 1 (p.chk.map rb)]] 0 0] = p := decC_eq ptOE_inj p
noncomputable abbrev used1S : PSpec := mkP ptOE (fun _ => True) fun p => .agg [.int .i64 p.hours, .int .i64 p.cycles]
noncomputable abbrev where1S : PSpec := mkP ptOE (fun _ => True) fun p => .agg [.int .i64 p.a, .int .i64 p.b]
noncomputable abbrev E44 : Env := { P := Tryd.prog, fn := tbl [], own := [], key := 4400, nt := 7 }
theorem b44 : PureBody E44 [] Tryd.f44 where1S := by
  refine pb ?_
  rintro p _
  simp -dsimp [Tryd.f44, E44, ptI, PS.irow]
  repeat' (first | omega | (simp -dsimp [E44, ri, cellp, ints, ptI, PS.irow]) | (refine Also.intro ?_ fun _ => ?_) | (refine Hold.intro fun _ => ?_) | (refine And.intro ?_ ?_))
theorem ok44 : FnOK Tryd.prog 44 (.pure where1S) := pure_fn (E := E44) rfl LOK.nil (ok := []) (fn := Tryd.f44) (by kernel_rfl) (by kernel_rfl) (by kernel_rfl) (by kernel_rfl) rfl (fun _ _ => by simp) b44
/-- The rows of the first k. -/
def tkV {α : Type} (f : α → List V) (l : List α) (k : Nat) : List (List V) := (l.take k).map f
@[simp] theorem tkV_zero {α : Type} (f : α → List V) (l : List α) : tkV f l 0 = [] := rfl
theorem tkV_succ {α : Type} (f : α → List V) {l : List α} {k : Nat} {x : α} (h : l[k]? = some x) : tkV f l (k + 1) = tkV f l k ++ [f x] := by
  simp [tkV, List.take_add_one, h]
theorem tkV_len {α : Type} (f : α → List V) {l : List α} {k : Nat} (h : k ≤ l.length) : (tkV f l k).length = k := by simp [tkV]; omega
theorem tkV_all {α : Type} (f : α → List V) (l : List α) : tkV f l l.length = l.map f := by simp [tkV]
structure EaD where
  r : Reg
  l : List Wk
  b : Bool
  deriving Inhabited
@[simp] def eaE (d : EaD) : List V := [.agg d.r.row, .sl 4 (d.l.map Wk.row), .fn (if d.b then 9999 else 44) []]
theorem eaE_inj (x y : EaD) (h : eaE x = eaE y) : x = y := by
  obtain ⟨r, l, b⟩ := x; obtain ⟨r', l', b'⟩ := y
  simp only [eaE, List.cons.injEq, V.agg.injEq, V.sl.injEq, true_and, and_true] at h
  obtain ⟨h1, h2, h3⟩ := h
  rw [Reg.row_inj _ _ h1, map_inj Wk.row_inj h2]
  cases b <;> cases b' <;> simp at h3 ⊢
theorem eaE_dec0 (r : Reg) (l : List Wk) : decC eaE [.agg [.sl 3 (r.kinds.map Kd.row), .sl 4 (r.parts.map Pt.row), .int .i64 r.machines, .sl 2 (r.orders.map Od.row)], .sl 4 (l.map Wk.row), .fn 44 []] = ⟨r, l, false⟩ := decC_eq eaE_inj ⟨r, l, false⟩
def eaP (b : Bool) (p : PS) : Int × Int := if b then (p.hours, p.cycles) else (p.a, p.b)
def eaR (r : Reg) (l : List Wk) (b : Bool) : List (Int × Int) := if opE r l = 0 then (opH r l).ps.map (eaP b) else []
noncomputable abbrev eachS : PSpec := mkP eaE (fun d => RL.Fine ⟨d.r, d.l⟩ ∧ d.b = false) fun d => .tup [prs (eaR d.r d.l d.b), .int .i64 (opE d.r d.l)]
noncomputable abbrev E43 : Env := { P := Tryd.prog, fn := tbl [(35, .pure openS), (44, .pure where1S)], own := [], key := 4300, nt := 39 }
theorem b43 : PureBody E43 [] Tryd.f43 eachS := by
  refine pb ?_
  rintro ⟨r, l, b⟩ ⟨hfn, hb⟩
  simp only at hfn hb
  subst hb
  by_cases hE : opE r l = 0
  case neg =>
    have hR : eaR r l false = [] := by simp [eaR, hE]
    simp -dsimp [Tryd.f43, E43, Reg.row] <;> repeat' (first | omega | (simp -dsimp [E43, ri, cellp, ints, rlE_dec', Reg.row, hfn, hE, hR, prs]) | (refine Also.intro ?_ fun _ => ?_) | (refine Hold.intro fun _ => ?_) | (refine And.intro ?_ ?_))
  have hR : eaR r l false = (opH r l).ps.map (eaP false) := by simp [eaR, hE]
  have hI := (opE_inv hE).2.2.2
  have hlen : (opH r l).ps.length ≤ 1000 := (opE_ok hE).ps
  rw [hR]
  clear hR
  generalize hs : opH r l = s at *
  have hips : s.i.ps = s.ps := rfl
  simp -dsimp [Tryd.f43, E43, Reg.row] <;> repeat' (first | omega | (simp -dsimp [E43, ri, cellp, ints, rlE_dec', Reg.row, hfn, hE, hs, HI.v, hips]) | (refine Also.intro ?_ fun _ => ?_) | (refine Hold.intro fun _ => ?_) | (refine And.intro ?_ ?_))
  · refine awp_loop_g [(6, 4336, 2, 55)] rfl (by simp) [28, 29, 30, 11, 31, 32, 33, 34, 35, 36, 6, 37, 27] (fun k : Fin (s.ps.length + 1) => [(27, (true, .int .i64 (k.1 : Nat))), (6, (true, .bsl 4336 0 k.1))])
      (fun k => hps [(4336, { base := 0, blks := [{ z := 2, els := tkV (fun p => cycV (eaP false p)) s.ps k.1, ty := 55 }] }), (4303, { base := 1, blks := [] })] noH) (fun k => s.ps.length - k.1) ⟨0, by omega⟩ ?_ ?_ ?_
    · simp [okAll, okv]
    · exact (by (try simp -dsimp only [hpush_noH, hpush_hps, hps_over]); refine hle_hps ?_; simp -dsimp [allK, ]; repeat' (first | (refine And.intro ?_ ?_) | (refine sLe.same ?_ ?_ <;> (simp; done)) | (refine sLe.clear ?_ ?_ <;> (first | (simp; done) | (simp; omega))) | (refine sLe.drop 1 ?_ ?_ ?_ <;> (simp; done))))
    rintro ⟨k, hk⟩
    simp only
    by_cases hk1 : k < s.ps.length
    · have hki : (k : Int) < s.ps.length := by omega
      have wk : IntKind.wrap .i64 ((k : Int) + 1) = (k + 1 : Nat) := wrap_id (by omega) (by omega)
      obtain ⟨p, hp, hp'⟩ := get_ex hk1
      have hpt := ptsI_ne (ps := s.ps) (by omega)
      have hT := tkV_succ (fun p => cycV (eaP false p)) hp
      have hTl := tkV_len (fun p => cycV (eaP false p)) (l := s.ps) (k := k) (by omega)
      have hfp : cycV (eaP false p) = [.int .i64 p.a, .int .i64 p.b] := rfl
      simp only [hfp] at hT
      generalize tkV (fun p => cycV (eaP false p)) s.ps k = T at *
      have hb8 : (k + 1) * 16 ≤ 140737488355328 := by omega
      simp -dsimp [hki, hpt]
      repeat' (first | omega | (simp -dsimp [E43, ri, cellp, ints, hki, hk1, hpt, hp, hp', ptI, PS.irow, ptOE_dec, wk, hTl, hb8]) | (refine Also.intro ?_ fun _ => ?_) | (refine Hold.intro fun _ => ?_) | (refine And.intro ?_ ?_))
      refine ⟨⟨k + 1, by omega⟩, tle_chain rfl ?_, (by (try simp -dsimp only [hpush_noH, hpush_hps, hps_over]); refine hle_hps ?_; simp -dsimp [allK, hT]; repeat' (first | (refine And.intro ?_ ?_) | (refine sLe.same ?_ ?_ <;> (simp; done)) | (refine sLe.clear ?_ ?_ <;> (first | (simp; done) | (simp; omega))) | (refine sLe.drop 1 ?_ ?_ ?_ <;> (simp; done)))), by simp only; omega⟩
      simp [okAll, okv]
    · have hkn : ¬ (k : Int) < s.ps.length := by omega
      have hke : k = s.ps.length := by omega
      subst hke
      simp -dsimp [hkn]
      repeat' (first | omega | (simp -dsimp [E43, ri, cellp, ints, hkn, prs, tkV_all]) | (refine Also.intro ?_ fun _ => ?_) | (refine Hold.intro fun _ => ?_) | (refine And.intro ?_ ?_))
theorem ok43 : FnOK Tryd.prog 43 (.pure eachS) := pure_fn (E := E43) rfl (.cons ok35 (.cons ok44 .nil)) (ok := []) (fn := Tryd.f43) (by kernel_rfl) (by kernel_rfl) (by kernel_rfl) (by kernel_rfl) rfl (fun _ _ => by simp) b43
noncomputable abbrev usedS : PSpec := mkP rlE RL.Fine fun d => .tup [prs (eaR d.r d.l true), .int .i64 (opE d.r d.l)]
noncomputable abbrev whereS : PSpec := mkP rlE RL.Fine fun d => .tup [prs (eaR d.r d.l false), .int .i64 (opE d.r d.l)]
noncomputable abbrev E18 : Env := { P := Tryd.prog, fn := tbl [(43, .pure eachS), (44, .pure where1S)], own := [], key := 1800, nt := 11 }
theorem b18 : PureBody E18 [] Tryd.f18 whereS := by
  refine pb ?_
  rintro ⟨r, l⟩ hfn
  simp -dsimp [Tryd.f18, E18, Reg.row]
  repeat' (first | omega | (simp -dsimp [E18, ri, cellp, ints, eaE_dec0, Reg.row, hfn, prs]) | (refine Also.intro ?_ fun _ => ?_) | (refine Hold.intro fun _ => ?_) | (refine And.intro ?_ ?_))
theorem ok18 : FnOK Tryd.prog 18 (.pure whereS) := pure_fn (E := E18) rfl (.cons ok43 (.cons ok44 .nil)) (ok := []) (fn := Tryd.f18) (by kernel_rfl) (by kernel_rfl) (by kernel_rfl) (by kernel_rfl) rfl (fun _ _ => by simp) b18
end Go.Sx
end
section
/- Parts: Left, Lacks, Longest, Due. No conditions. -/
set_option linter.unusedSimpArgs false
set_option linter.unusedSectionVars false
set_option maxRecDepth 100000
set_option maxHeartbeats 2000000
namespace Go.Sx
open Go.Proofs
attribute [local irreducible] HLe
attribute [local simp] hps_app

structure RLN where
  r : Reg
  l : List Wk
  n : Int
  deriving Inhabited
@[simp] def rnE (d : RLN) : List V := [.agg d.r.row, .sl 4 (d.l.map Wk.row), .int .i64 d.n]
theorem rnE_inj (a b : RLN) (h : rnE a = rnE b) : a = b := by
  obtain ⟨r, l, n⟩ := a; obtain ⟨r', l', n'⟩ := b
  simp only [rnE, List.cons.injEq, V.agg.injEq, V.sl.injEq, V.int.injEq, true_and, and_true] at h
  rw [Reg.row_inj _ _ h.1, map_inj Wk.row_inj h.2.1, h.2.2]
theorem rnE_dec' (r : Reg) (l : List Wk) (n : Int) : decC rnE [.agg [.sl 3 (r.kinds.map Kd.row), .sl 4 (r.parts.map Pt.row), .int .i64 r.machines, .sl 2 (r.orders.map Od.row)], .sl 4 (l.map Wk.row), .int .i64 n] = ⟨r, l, n⟩ := decC_eq rnE_inj ⟨r, l, n⟩
def RLN.Fine (d : RLN) : Prop := RL.Fine ⟨d.r, d.l⟩
def max0 (x : Int) : Int := if x < 0 then 0 else x
structure LR where
  h : Int
  c : Int
  e : Int
def leftF (r : Reg) (l : List Wk) (n : Int) : LR :=
  if opE r l = 0 then (if (opH r l).i.part n = true then ⟨max0 ((opH r l).i.leftT ((opH r l).ps.getD n.toNat default)), max0 ((opH r l).i.leftC ((opH r l).ps.getD n.toNat default)), 0⟩ else ⟨0, 0, 1⟩) else ⟨0, 0, opE r l⟩
noncomputable abbrev leftFS : PSpec := mkP rnE RLN.Fine fun d => .tup [.int .i64 (leftF d.r d.l d.n).h, .int .i64 (leftF d.r d.l d.n).c, .int .i64 (leftF d.r d.l d.n).e]
def lacksF (r : Reg) (l : List Wk) (m : Int) : List (Int × Int) := if opE r l = 0 then (if (opH r l).i.machine m = true then (opH r l).i.lacks m else []) else []
def lacksE (r : Reg) (l : List Wk) (m : Int) : Int := if opE r l = 0 then (if (opH r l).i.machine m = true then 0 else 1) else opE r l
noncomputable abbrev lacksFS : PSpec := mkP rnE RLN.Fine fun d => .tup [prs (lacksF d.r d.l d.n), .int .i64 (lacksE d.r d.l d.n)]
structure RLM where
  r : Reg
  l : List Wk
  m : Int
  c : Int
  deriving Inhabited
@[simp] def rmE (d : RLM) : List V := [.agg d.r.row, .sl 4 (d.l.map Wk.row), .int .i64 d.m, .int .i64 d.c]
theorem rmE_inj (a b : RLM) (h : rmE a = rmE b) : a = b := by
  obtain ⟨r, l, m, c⟩ := a; obtain ⟨r', l', m', c'⟩ := b
  simp only [rmE, List.cons.injEq, V.agg.injEq, V.sl.injEq, V.int.injEq, true_and, and_true] at h
  rw [Reg.row_inj _ _ h.1, map_inj Wk.row_inj h.2.1, h.2.2.1, h.2.2.2]
theorem rmE_dec' (r : Reg) (l : List Wk) (m c : Int) : decC rmE [.agg [.sl 3 (r.kinds.map Kd.row), .sl 4 (r.parts.map Pt.row), .int .i64 r.machines, .sl 2 (r.orders.map Od.row)], .sl 4 (l.map Wk.row), .int .i64 m, .int .i64 c] = ⟨r, l, m, c⟩ := decC_eq rmE_inj ⟨r, l, m, c⟩
def RLM.Fine (d : RLM) : Prop := RL.Fine ⟨d.r, d.l⟩
def longE (r : Reg) (l : List Wk) (m c : Int) : Int := if opE r l = 0 then (if ((opH r l).i.machine m && withinB c 0 100) = true then (if (opH r l).i.longest m c < 0 then 3 else 0) else 1) else opE r l
def longF (r : Reg) (l : List Wk) (m c : Int) : Int := if longE r l m c = 0 then (opH r l).i.longest m c else 0
noncomputable abbrev longFS : PSpec := mkP rmE RLM.Fine fun d => .tup [.int .i64 (longF d.r d.l d.m d.c), .int .i64 (longE d.r d.l d.m d.c)]
noncomputable abbrev E21 : Env := { P := Tryd.prog, fn := tbl [(35, .pure openS), (38, .pure machineS), (37, .pure withinS), (50, .pure longestS)], own := [], key := 2100, nt := 40 }
theorem b21 : PureBody E21 [] Tryd.f21 longFS := by
  refine pb ?_
  rintro ⟨r, l, m, c⟩ hfn
  have hfn : RL.Fine ⟨r, l⟩ := hfn
  by_cases hE : opE r l = 0
  case neg =>
    have hR : longE r l m c = opE r l := by simp [longE, hE]
    have hR2 : longF r l m c = 0 := by simp [longF, hR, hE]
    simp -dsimp [Tryd.f21, E21, Reg.row]
    repeat' (first | omega | (simp -dsimp [E21, ri, cellp, ints, rlE_dec', Reg.row, hfn, hE, hR, hR2]) | (refine Also.intro ?_ fun _ => ?_) | (refine Hold.intro fun _ => ?_) | (refine And.intro ?_ ?_))
  have hsm := (opE_ok hE).small
  have hfit : ∀ p ∈ (opH r l).i.ps, (opH r l).i.Fit p := (opE_ok hE).fit
  cases hp : (opH r l).i.machine m
  · have hR : longE r l m c = 1 := by simp [longE, hE, hp]
    have hR2 : longF r l m c = 0 := by simp [longF, hR]
    generalize hs : opH r l = s at *
    simp -dsimp [Tryd.f21, E21, Reg.row]
    repeat' (first | omega | (simp -dsimp [E21, ri, cellp, ints, rlE_dec', Reg.row, hfn, hE, hs, HI.v, hiE_dec', hp, hR, hR2]) | (refine Also.intro ?_ fun _ => ?_) | (refine Hold.intro fun _ => ?_) | (refine And.intro ?_ ?_))
  cases hq : withinB c 0 100
  · have hR : longE r l m c = 1 := by simp [longE, hE, hp, hq]
    have hR2 : longF r l m c = 0 := by simp [longF, hR]
    generalize hs : opH r l = s at *
    simp -dsimp [Tryd.f21, E21, Reg.row]
    repeat' (first | omega | (simp -dsimp [E21, ri, cellp, ints, rlE_dec', Reg.row, hfn, hE, hs, HI.v, hiE_dec', hp, hq, hR, hR2]) | (refine Also.intro ?_ fun _ => ?_) | (refine Hold.intro fun _ => ?_) | (refine And.intro ?_ ?_))
  by_cases hn : (opH r l).i.longest m c < 0
  · have hR : longE r l m c = 3 := by simp [longE, hE, hp, hq, hn]
    have hR2 : longF r l m c = 0 := by simp [longF, hR]
    generalize hs : opH r l = s at *
    simp -dsimp [Tryd.f21, E21, Reg.row]
    repeat' (first | omega | (simp -dsimp [E21, ri, cellp, ints, rlE_dec', Reg.row, hfn, hE, hs, HI.v, hiE_dec', hmE_dec', hsm, hfit, hp, hq, hn, hR, hR2]) | (refine Also.intro ?_ fun _ => ?_) | (refine Hold.intro fun _ => ?_) | (refine And.intro ?_ ?_))
  · have hR : longE r l m c = 0 := by simp [longE, hE, hp, hq, hn]
    have hR2 : longF r l m c = (opH r l).i.longest m c := by simp [longF, hR]
    generalize hs : opH r l = s at *
    simp -dsimp [Tryd.f21, E21, Reg.row]
    repeat' (first | omega | (simp -dsimp [E21, ri, cellp, ints, rlE_dec', Reg.row, hfn, hE, hs, HI.v, hiE_dec', hmE_dec', hsm, hfit, hp, hq, hn, hR, hR2]) | (refine Also.intro ?_ fun _ => ?_) | (refine Hold.intro fun _ => ?_) | (refine And.intro ?_ ?_))
theorem ok21 : FnOK Tryd.prog 21 (.pure longFS) := pure_fn (E := E21) rfl (.cons ok35 (.cons ok38 (.cons ok37 (.cons ok50 .nil)))) (ok := []) (fn := Tryd.f21) (by kernel_rfl) (by kernel_rfl) (by kernel_rfl) (by kernel_rfl) rfl (fun _ _ => by simp) b21
end Go.Sx
end
section
/- Parts: the look at the examples. No conditions. -/
set_option linter.unusedSimpArgs false
set_option linter.unusedSectionVars false
set_option maxRecDepth 100000
set_option maxHeartbeats 2000000
namespace Go.Sx
open Go.Proofs
attribute [local irreducible] HLe
attribute [local simp] hps_app

theorem prs_inj {a b : List (Int × Int)} (h : prs a = prs b) : a = b := by
  simp only [prs, V.sl.injEq, true_and] at h; exact cycV_inj h
theorem ints_inj {a b : List Int} (h : ints a = ints b) : a = b := by
  simp only [ints, V.sl.injEq, true_and] at h; exact map_ri_inj h
theorem toPrs_rows (l : List (Int × Int)) : (V.sl 2 (l.map cycV)).toPrs = l := toPrs_prs l
def exR : Reg := { kinds := [⟨100, 50, 1⟩, ⟨1000, 1000, 2⟩], parts := [⟨0, 90, 10, true⟩, ⟨0, 0, 0, true⟩, ⟨1, 0, 0, true⟩, ⟨1, 0, 0, true⟩], machines := 1, orders := [⟨1, 5⟩] }
def exL : List Wk := [⟨2, 0, 0, 0⟩, ⟨2, 2, 0, 0⟩, ⟨2, 3, 0, 1⟩, ⟨1, 0, 4, 3⟩]
theorem ex_e : longE exR exL 0 2 = 0 := by decide +kernel
theorem ex_f : longF exR exL 0 2 = 6 := by decide +kernel
noncomputable abbrev exS : PSpec := mkP (D := Unit) (fun _ => []) (fun _ => True) fun _ => .tup [.agg [.sl 3 (exR.kinds.map Kd.row), .sl 4 (exR.parts.map Pt.row), .int .i64 exR.machines, .sl 2 (exR.orders.map Od.row)], .sl 4 (exL.map Wk.row)]
noncomputable abbrev E20 : Env := { P := Tryd.prog, fn := tbl [], own := [], key := 2000, nt := 20 }
theorem b20 : PureBody E20 [] Tryd.f20 exS := by
  refine pb ?_
  rintro _ _
  simp -dsimp [Tryd.f20, E20]
  repeat' (first | omega | (simp -dsimp [E20, ri, cellp, ints, exR, exL, Kd.row, Pt.row, Od.row, Wk.row]) | (refine Also.intro ?_ fun _ => ?_) | (refine Hold.intro fun _ => ?_) | (refine And.intro ?_ ?_))
theorem ok20 : FnOK Tryd.prog 20 (.pure exS) := pure_fn (E := E20) rfl LOK.nil (ok := []) (fn := Tryd.f20) (by kernel_rfl) (by kernel_rfl) (by kernel_rfl) (by kernel_rfl) rfl (fun _ _ => by simp) b20
def exC : List Int := [0, 5, 2, 4, 1, 6, 0]
theorem exC_e : serE exC = 0 := by decide +kernel
theorem exC_c : cycles exC = [(2, 2), (4, 2), (6, 1), (6, 1)] := by decide +kernel
noncomputable abbrev worksS : PSpec := mkP (D := Unit) (fun _ => []) (fun _ => True) fun _ => .bool true
noncomputable abbrev E7 : Env := { P := Tryd.prog, fn := tbl [(20, .pure exS), (21, .pure longFS), (22, .pure CyclesS), (23, .pure samePS)], own := [], key := 700, nt := 41 }
theorem b7 : PureBody E7 [] Tryd.f7 worksS := by
  refine pb ?_
  rintro _ _
  have f1 : RLM.Fine ⟨exR, exL, 0, 2⟩ := by refine ⟨?_, ?_, ?_, ?_⟩ <;> decide +kernel
  have e1 := ex_e
  have e2 := ex_f
  have e3 := exC_e
  have e4 := exC_c
  simp only [exC] at e3 e4
  simp -dsimp [Tryd.f7, E7]
  repeat' (first | omega | (simp -dsimp [E7, ri, cellp, ints, rmE_dec', f1, e1, e2, e3, e4, V.toInts, V.rows, rowInt, V.toPrs, cycV, cycOf, V.toInt, prs]) | (refine Also.intro ?_ fun _ => ?_) | (refine Hold.intro fun _ => ?_) | (refine And.intro ?_ ?_))
theorem ok7 : FnOK Tryd.prog 7 (.pure worksS) := pure_fn (E := E7) rfl (.cons ok20 (.cons ok21 (.cons ok22 (.cons ok23 .nil)))) (ok := []) (fn := Tryd.f7) (by kernel_rfl) (by kernel_rfl) (by kernel_rfl) (by kernel_rfl) rfl (fun _ _ => by simp) b7
end Go.Sx
end
section
/- Parts: Gaps and Doubles are the reference's. No conditions. -/
set_option linter.unusedSimpArgs false
set_option linter.unusedSectionVars false
set_option maxRecDepth 100000
set_option maxHeartbeats 2000000
namespace Go.Sx
open Go.Proofs
attribute [local irreducible] HLe
attribute [local simp] hps_app

noncomputable abbrev gapS (b : Bool) : PSpec := mkP pgE (fun d => d.2.length ≤ 10000000000000) fun d => .tup [.sl 2 ((covL d.1 d.2 b).map Sp.row), .int .i64 (ckP d.1 d.2)]
noncomputable abbrev E8 : Env := { P := Tryd.prog, fn := tbl [(24, .pure covS)], own := [], key := 800, nt := 11 }
theorem b8 : PureBody E8 [] Tryd.f8 (gapS true) := by
  refine pb ?_
  rintro ⟨n, l⟩ hl
  have hl : l.length ≤ 10000000000000 := hl
  have h := cvE_dec1 n l
  simp -dsimp [Tryd.f8, E8]
  repeat' (first | omega | (simp -dsimp [E8, ri, cellp, ints, hl, h]) | (refine Also.intro ?_ fun _ => ?_) | (refine Hold.intro fun _ => ?_) | (refine And.intro ?_ ?_))
theorem ok8 : FnOK Tryd.prog 8 (.pure (gapS true)) := pure_fn (E := E8) rfl (.cons ok24 .nil) (ok := []) (fn := Tryd.f8) (by kernel_rfl) (by kernel_rfl) (by kernel_rfl) (by kernel_rfl) rfl (fun _ _ => by simp) b8
noncomputable abbrev E11 : Env := { P := Tryd.prog, fn := tbl [(24, .pure covS)], own := [], key := 1100, nt := 11 }
theorem b11 : PureBody E11 [] Tryd.f11 (gapS false) := by
  refine pb ?_
  rintro ⟨n, l⟩ hl
  have hl : l.length ≤ 10000000000000 := hl
  have h := cvE_dec0 n l
  simp -dsimp [Tryd.f11, E11]
  repeat' (first | omega | (simp -dsimp [E11, ri, cellp, ints, hl, h]) | (refine Also.intro ?_ fun _ => ?_) | (refine Hold.intro fun _ => ?_) | (refine And.intro ?_ ?_))
theorem ok11 : FnOK Tryd.prog 11 (.pure (gapS false)) := pure_fn (E := E11) rfl (.cons ok24 .nil) (ok := []) (fn := Tryd.f11) (by kernel_rfl) (by kernel_rfl) (by kernel_rfl) (by kernel_rfl) rfl (fun _ _ => by simp) b11
theorem cov_in {n : Int} {l : List Sp} (h : ckP n l = 0) : rns (inS l 0 0) n.toNat = covL n l true ∧ rns (inS l 2 20) n.toNat = covL n l false := by
  have hk := ckP_ok h
  constructor
  · rw [covL, if_pos h]
    refine rns_congr _ fun i _ => ?_
    rw [Bool.eq_iff_iff]; simp [inS, withinB, isP]
  · rw [covL, if_pos h]
    refine rns_congr _ fun i _ => ?_
    have := many_le l i
    rw [Bool.eq_iff_iff]; simp [inS, withinB, isP]; omega
noncomputable abbrev E9 : Env := { P := Tryd.prog, fn := tbl [(13, .pure ckpS), (26, .pure strS)], own := [], key := 900, nt := 16 }
theorem b9 : PureBody E9 [] Tryd.f9 (gapS true) := by
  refine pb ?_
  rintro ⟨n, l⟩ hl
  have hl : l.length ≤ 10000000000000 := hl
  have h0 := pgE_dec n l
  have h1 := stE_dec n l 0 0
  by_cases hE : ckP n l = 0
  · have hk := ckP_ok hE
    have hc := (cov_in hE).1
    have hP : StP ⟨n, l, 0, 0⟩ := ⟨by simp only; omega, by simp only; omega⟩
    simp -dsimp [Tryd.f9, E9]
    repeat' (first | omega | (simp -dsimp [E9, ri, cellp, ints, hl, h0, h1, hE, hc, hP]) | (refine Also.intro ?_ fun _ => ?_) | (refine Hold.intro fun _ => ?_) | (refine And.intro ?_ ?_))
  · have hL : covL n l true = [] := by rw [covL, if_neg hE]
    simp -dsimp [Tryd.f9, E9]
    repeat' (first | omega | (simp -dsimp [E9, ri, cellp, ints, hl, h0, hE, hL]) | (refine Also.intro ?_ fun _ => ?_) | (refine Hold.intro fun _ => ?_) | (refine And.intro ?_ ?_))
theorem ok9 : FnOK Tryd.prog 9 (.pure (gapS true)) := pure_fn (E := E9) rfl (.cons ok13 (.cons ok26 .nil)) (ok := []) (fn := Tryd.f9) (by kernel_rfl) (by kernel_rfl) (by kernel_rfl) (by kernel_rfl) rfl (fun _ _ => by simp) b9
noncomputable abbrev E12 : Env := { P := Tryd.prog, fn := tbl [(13, .pure ckpS), (26, .pure strS)], own := [], key := 1200, nt := 16 }
theorem b12 : PureBody E12 [] Tryd.f12 (gapS false) := by
  refine pb ?_
  rintro ⟨n, l⟩ hl
  have hl : l.length ≤ 10000000000000 := hl
  have h0 := pgE_dec n l
  have h1 := stE_dec n l 2 20
  by_cases hE : ckP n l = 0
  · have hk := ckP_ok hE
    have hc := (cov_in hE).2
    have hP : StP ⟨n, l, 2, 20⟩ := ⟨by simp only; omega, by simp only; omega⟩
    simp -dsimp [Tryd.f12, E12]
    repeat' (first | omega | (simp -dsimp [E12, ri, cellp, ints, hl, h0, h1, hE, hc, hP]) | (refine Also.intro ?_ fun _ => ?_) | (refine Hold.intro fun _ => ?_) | (refine And.intro ?_ ?_))
  · have hL : covL n l false = [] := by rw [covL, if_neg hE]
    simp -dsimp [Tryd.f12, E12]
    repeat' (first | omega | (simp -dsimp [E12, ri, cellp, ints, hl, h0, hE, hL]) | (refine Also.intro ?_ fun _ => ?_) | (refine Hold.intro fun _ => ?_) | (refine And.intro ?_ ?_))
theorem ok12 : FnOK Tryd.prog 12 (.pure (gapS false)) := pure_fn (E := E12) rfl (.cons ok13 (.cons ok26 .nil)) (ok := []) (fn := Tryd.f12) (by kernel_rfl) (by kernel_rfl) (by kernel_rfl) (by kernel_rfl) rfl (fun _ _ => by simp) b12
def farB (n : Int) : Bool := decide (300 < n) && decide (n ≤ 100000)
abbrev farS : PSpec := { dom := Int, enc := fun d => [.int .i64 d], dec := fun l => (l.getD 0 .top).toInt, pre := fun _ => True, res := fun d => .bool (farB d) }
noncomputable abbrev E6 : Env := { P := Tryd.prog, fn := tbl [], own := [], key := 600, nt := 9 }
theorem b6 : PureBody E6 [] Tryd.f6 farS := by
  refine pb ?_
  rintro n _
  simp -dsimp [Tryd.f6, E6, farB]
  repeat' (first | omega | (simp -dsimp [E6, ri, cellp, ints, farB]) | (refine Also.intro ?_ fun _ => ?_) | (refine Hold.intro fun _ => ?_) | (refine And.intro ?_ ?_))
theorem ok6 : FnOK Tryd.prog 6 (.pure farS) := pure_fn (E := E6) rfl LOK.nil (ok := []) (fn := Tryd.f6) (by kernel_rfl) (by kernel_rfl) (by kernel_rfl) (by kernel_rfl) rfl (fun _ _ => by simp) b6
noncomputable abbrev lawPaS : PSpec := mkP pgE (fun d => d.2.length ≤ 10000000000000) fun _ => .bool true
theorem covL_len (n : Int) (l : List Sp) (b : Bool) : (covL n l b).length ≤ 9223372036854775807 := by
  unfold covL
  split
  · rename_i h
    have := ckP_ok h
    have := rns_len (fun h => isP b (many l h : Nat)) n.toNat
    omega
  · simp
noncomputable abbrev E3 : Env := { P := Tryd.prog, fn := tbl [(6, .pure farS), (7, .pure worksS), (8, .pure (gapS true)), (9, .pure (gapS true)), (10, .pure sspS), (11, .pure (gapS false)), (12, .pure (gapS false))], own := [], key := 300, nt := 56 }
theorem b3 : PureBody E3 [] Tryd.f3 lawPaS := by
  refine pb ?_
  rintro ⟨n, l⟩ hl
  have hl : l.length ≤ 10000000000000 := hl
  have h0 := pgE_dec n l
  cases hf : farB n
  · have l1 := covL_len n l true
    have l2 := covL_len n l false
    have hP1 : SsP (covL n l true, covL n l true) := ⟨l1, l1⟩
    have hP2 : SsP (covL n l false, covL n l false) := ⟨l2, l2⟩
    have s1 := ssE_dec (covL n l true) (covL n l true)
    have s2 := ssE_dec (covL n l false) (covL n l false)
    simp -dsimp [Tryd.f3, E3]
    repeat' (first | omega | (simp -dsimp [E3, ri, cellp, ints, hf, hl, h0, hP1, hP2, s1, s2]) | (refine Also.intro ?_ fun _ => ?_) | (refine Hold.intro fun _ => ?_) | (refine And.intro ?_ ?_))
  · simp -dsimp [Tryd.f3, E3]
    repeat' (first | omega | (simp -dsimp [E3, ri, cellp, ints, hf, hl, h0]) | (refine Also.intro ?_ fun _ => ?_) | (refine Hold.intro fun _ => ?_) | (refine And.intro ?_ ?_))
theorem ok3 : FnOK Tryd.prog 3 (.pure lawPaS) := pure_fn (E := E3) rfl (.cons ok6 (.cons ok7 (.cons ok8 (.cons ok9 (.cons ok10 (.cons ok11 (.cons ok12 .nil))))))) (ok := []) (fn := Tryd.f3) (by kernel_rfl) (by kernel_rfl) (by kernel_rfl) (by kernel_rfl) rfl (fun _ _ => by simp) b3
end Go.Sx
end
