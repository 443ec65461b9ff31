/- A part of a proof; no conditions. -/
import Derived.Test.YtomgmojjdgiieaaGreatP25
import Derived.Test.YtomgmojjdgiieaaGreatP22
set_option linter.unusedSimpArgs false
set_option linter.unusedVariables false
set_option linter.unusedSectionVars false
section
/- Tables: the extremes, Bound, and the look at a table. No conditions. -/
set_option linter.unusedSimpArgs false
set_option linter.unusedSectionVars false
set_option maxRecDepth 100000
set_option maxHeartbeats 8000000
namespace Go.Sx.Tab
open Go.Proofs Go.Sx
attribute [local irreducible] awp HLe atV atW wa ws wm
structure Pq where
  x : Int
  y : Int
  n : Int
  d : Int
  deriving Inhabited
def Pq.row (p : Pq) : List V := [.int .i64 p.x, .int .i64 p.y, .int .i64 p.n, .int .i64 p.d]
theorem Pq.row_inj (a b : Pq) (h : a.row = b.row) : a = b := by
  cases a; cases b
  simp only [Pq.row, List.cons.injEq, V.int.injEq, true_and, and_true] at h
  obtain ⟨rfl, rfl, rfl, rfl⟩ := h; rfl
def pqAt (t : Tb) (p : Int × Int) : Pq := ⟨p.1, p.2, (atV t p.1 p.2).1, (atV t p.1 p.2).2⟩
theorem ptR_eq (t : Tb) (p : Int × Int) : ptR t p = [.agg (pqAt t p).row] := by simp only [ptR, pqAt, Pq.row]
def pqOf (x : List V) : Pq := ⟨((x.getD 0 .top).cs.getD 0 .top).toInt, ((x.getD 0 .top).cs.getD 1 .top).toInt, ((x.getD 0 .top).cs.getD 2 .top).toInt, ((x.getD 0 .top).cs.getD 3 .top).toInt⟩
theorem pqOf_row (p : Pq) : pqOf [.agg p.row] = p := rfl
structure ExS where
  c : Nat
  bg : Bool
  le : Pq
  mo : Pq
def exC (s : ExS) : List (Nat × Site) := [(3606, { base := 0, blks := [{ z := 4, els := [s.le.row], ty := 103 }] }), (3607, { base := 0, blks := [{ z := 4, els := [s.mo.row], ty := 103 }] }), (3608, { base := 0, blks := [{ z := 1, els := [[.bool s.bg]], ty := 4 }] }), (3609, { base := s.c, blks := [] })]
theorem exC_keys (s : ExS) : (exC s).map (·.1) = [3606, 3607, 3608, 3609] := rfl
theorem exC_inj (s s' : ExS) (h : ∀ k ∈ [3606, 3607, 3608, 3609], hps (exC s) noH k = hps (exC s') noH k) : s = s' := by
  have h1 := h 3606 (by simp)
  have h2 := h 3607 (by simp)
  have h3 := h 3608 (by simp)
  have h4 := h 3609 (by simp)
  simp [exC, hps] at h1 h2 h3 h4
  obtain ⟨c, bg, le, mo⟩ := s; obtain ⟨c', bg', le', mo'⟩ := s'
  simp only at h1 h2 h3 h4
  rw [Pq.row_inj _ _ h1, Pq.row_inj _ _ h2, h3, h4]
def Pq.v (p : Pq) : Int × Int := (p.n, p.d)
def ExS.next (s : ExS) (p : Pq) : ExS := ⟨s.c + 1, true, if s.bg = false ∨ cmpV p.v s.le.v < 0 then p else s.le, if s.bg = false ∨ 0 < cmpV p.v s.mo.v then p else s.mo⟩
structure ExS.Ok (s : ExS) (p : Pq) : Prop where
  v : Va p.v
  l : s.bg = true → Va s.le.v
  m : s.bg = true → Va s.mo.v
abbrev exPre (s : ExS) (x : List V) : Prop := ∃ p : Pq, x = [.agg p.row] ∧ s.Ok p
def exRun (s : ExS) (l : List Pq) : ExS := l.foldl ExS.next s
theorem ex_run (t : Tb) : ∀ (l : List (Int × Int)) (s : ExS), (∀ p ∈ l, Va (pqAt t p).v) → (s.bg = true → Va s.le.v ∧ Va s.mo.v) →
    (runS exPre (fun _ _ => true) (fun s x => s.next (pqOf x)) s (l.map (ptR t))).1 ∧ (runS exPre (fun _ _ => true) (fun s x => s.next (pqOf x)) s (l.map (ptR t))).2 = (true, exRun s (l.map (pqAt t)))
  | [], s, _, _ => ⟨trivial, rfl⟩
  | p :: l, s, h, hb => by
    have hp := h p (by simp)
    have hn : (s.next (pqAt t p)).bg = true → Va (s.next (pqAt t p)).le.v ∧ Va (s.next (pqAt t p)).mo.v := fun _ => by
      simp only [ExS.next]
      constructor
      · split
        · exact hp
        · rename_i hc; exact (hb (by cases hs : s.bg; exact absurd (.inl hs) hc; rfl)).1
      · split
        · exact hp
        · rename_i hc; exact (hb (by cases hs : s.bg; exact absurd (.inl hs) hc; rfl)).2
    obtain ⟨h1, h2⟩ := ex_run t l (s.next (pqAt t p)) (fun q hq => h q (by simp [hq])) hn
    simp only [List.map_cons, runS, ptR_eq, pqOf_row]
    exact ⟨⟨⟨_, rfl, hp, fun e => (hb e).1, fun e => (hb e).2⟩, h1⟩, h2⟩
def exS0 : ExS := ⟨0, false, ⟨0, 0, 0, 0⟩, ⟨0, 0, 0, 0⟩⟩
def exR (d : BdD) : ExS := exRun exS0 ((cnL d).map (pqAt d.t))
structure ExP (d : BdD) : Prop where
  t : tbB d.t = true
  v : ∀ p ∈ cnL d, Va (pqAt d.t p).v
noncomputable abbrev extS : PSpec := mkP bdE ExP fun d => .tup [.agg (exR d).le.row, .agg (exR d).mo.row]
noncomputable abbrev E36 : Env := { P := Tryz.prog, fn := tbl [(68, .pure cnsS), (106, .iter cnI), (69, .pure cmpS)], own := [], key := 3600, nt := 39 }
theorem b36 : PureBody E36 [(9, ([], [[0, 1, 2, 3], [0, 2, 1, 3]]))] Tryz.f36 extS := by
  refine pb ?_
  rintro ⟨t, a, b⟩ ⟨ht, hva⟩
  simp only at ht hva
  obtain ⟨hr1, hr2⟩ := ex_run t (cnL ⟨t, a, b⟩) exS0 hva (fun e => by cases e)
  simp -dsimp [Tryz.f36, E36, tabR, Sp.row]
  repeat' (first | omega | (simp -dsimp [E36, ri, cellp, ints, tabR, Sp.row, bdE_dec]) | (refine Also.intro ?_ fun _ => ?_) | (refine Hold.intro fun _ => ?_) | (refine And.intro ?_ ?_))
  refine awp_range (LC := exC) (keys := [3606, 3607, 3608, 3609]) (pre := exPre) (go := fun _ _ => true) (nxt := fun s x => s.next (pqOf x)) exC_inj exC_keys exS0 .normal ((cnL ⟨t, a, b⟩).map (ptR t)) (own := []) (ro := []) (dec := cnDec) (by simp; exact ⟨rfl, rfl⟩) (by simp; rfl) rfl (by decide) (by decide) (by decide) ?_ ?_ ?_ ?_ hr1 ?_ ?_ ?_
  · simp [hps, YS, noH]
  · intro k hk
    simp at hk
    rcases hk with rfl | rfl | rfl | rfl <;> simp [hps, exC, exS0, Pq.row, noH]
  · intro k hk
    cases hk
  · rw [cnDec_at]
    exact ⟨ht, rfl⟩
  · rintro s x hb ⟨p, rfl, hv, hl, hm⟩ hy1 hy2
    refine ⟨rfl, ?_⟩
    rw [pqOf_row]
    obtain ⟨c, bg, le, mo⟩ := s
    simp only at hl hm
    have hv' : Va (p.n, p.d) := hv
    cases bg
    · simp -dsimp [E36, setT, exC, ExS.next, Pq.row]
      repeat' (first | omega | (simp -dsimp [E36, ri, cellp, ints, Pq.row]) | (refine Also.intro ?_ fun _ => ?_) | (refine Hold.intro fun _ => ?_) | (refine And.intro ?_ ?_))
      exact (by (try simp -dsimp only [hpush_noH, hpush_hps, hps_over]); refine hle_hpsb ?_; simp -dsimp [allK, Pq.row, exC]; repeat' (first | (refine And.intro ?_ ?_) | (refine sLe.same ?_ ?_ <;> (simp; done)) | (refine sLe.clear ?_ ?_ <;> (first | (simp; done) | (simp; omega))) | (refine sLe.drop 1 ?_ ?_ ?_ <;> (simp; done))))
    · have hl' : Va (le.n, le.d) := hl rfl
      have hm' : Va (mo.n, mo.d) := hm rfl
      have hnx : ExS.next ⟨c, true, le, mo⟩ p = ⟨c + 1, true, if cmpV (p.n, p.d) (le.n, le.d) < 0 then p else le, if 0 < cmpV (p.n, p.d) (mo.n, mo.d) then p else mo⟩ := by
        simp only [ExS.next, Pq.v]; simp
      rw [hnx]
      by_cases h1 : cmpV (p.n, p.d) (le.n, le.d) < 0
      · rw [if_pos h1]
        by_cases h2 : 0 < cmpV (p.n, p.d) (mo.n, mo.d)
        · rw [if_pos h2]
          simp -dsimp [E36, setT, exC, Pq.row]
          repeat' (first | omega | (simp -dsimp [E36, ri, cellp, ints, Pq.row, vvE_dec, hv', hl', hm', h1, h2]) | (refine Also.intro ?_ fun _ => ?_) | (refine Hold.intro fun _ => ?_) | (refine And.intro ?_ ?_))
          exact (by (try simp -dsimp only [hpush_noH, hpush_hps, hps_over]); refine hle_hpsb ?_; simp -dsimp [allK, Pq.row, exC]; repeat' (first | (refine And.intro ?_ ?_) | (refine sLe.same ?_ ?_ <;> (simp; done)) | (refine sLe.clear ?_ ?_ <;> (first | (simp; done) | (simp; omega))) | (refine sLe.drop 1 ?_ ?_ ?_ <;> (simp; done))))
        · rw [if_neg h2]
          have h2' : (0 < cmpV (p.n, p.d) (mo.n, mo.d)) = False := eq_false h2
          simp -dsimp [E36, setT, exC, Pq.row]
          repeat' (first | omega | (simp -dsimp [E36, ri, cellp, ints, Pq.row, vvE_dec, hv', hl', hm', h1, h2']) | (refine Also.intro ?_ fun _ => ?_) | (refine Hold.intro fun _ => ?_) | (refine And.intro ?_ ?_))
          exact (by (try simp -dsimp only [hpush_noH, hpush_hps, hps_over]); refine hle_hpsb ?_; simp -dsimp [allK, Pq.row, exC]; repeat' (first | (refine And.intro ?_ ?_) | (refine sLe.same ?_ ?_ <;> (simp; done)) | (refine sLe.clear ?_ ?_ <;> (first | (simp; done) | (simp; omega))) | (refine sLe.drop 1 ?_ ?_ ?_ <;> (simp; done))))
      · rw [if_neg h1]
        have h1' : (cmpV (p.n, p.d) (le.n, le.d) < 0) = False := eq_false h1
        by_cases h2 : 0 < cmpV (p.n, p.d) (mo.n, mo.d)
        · rw [if_pos h2]
          simp -dsimp [E36, setT, exC, Pq.row]
          repeat' (first | omega | (simp -dsimp [E36, ri, cellp, ints, Pq.row, vvE_dec, hv', hl', hm', h1', h2]) | (refine Also.intro ?_ fun _ => ?_) | (refine Hold.intro fun _ => ?_) | (refine And.intro ?_ ?_))
          exact (by (try simp -dsimp only [hpush_noH, hpush_hps, hps_over]); refine hle_hpsb ?_; simp -dsimp [allK, Pq.row, exC]; repeat' (first | (refine And.intro ?_ ?_) | (refine sLe.same ?_ ?_ <;> (simp; done)) | (refine sLe.clear ?_ ?_ <;> (first | (simp; done) | (simp; omega))) | (refine sLe.drop 1 ?_ ?_ ?_ <;> (simp; done))))
        · rw [if_neg h2]
          have h2' : (0 < cmpV (p.n, p.d) (mo.n, mo.d)) = False := eq_false h2
          simp -dsimp [E36, setT, exC, Pq.row]
          repeat' (first | omega | (simp -dsimp [E36, ri, cellp, ints, Pq.row, vvE_dec, hv', hl', hm', h1', h2']) | (refine Also.intro ?_ fun _ => ?_) | (refine Hold.intro fun _ => ?_) | (refine And.intro ?_ ?_))
          exact (by (try simp -dsimp only [hpush_noH, hpush_hps, hps_over]); refine hle_hpsb ?_; simp -dsimp [allK, Pq.row, exC]; repeat' (first | (refine And.intro ?_ ?_) | (refine sLe.same ?_ ?_ <;> (simp; done)) | (refine sLe.clear ?_ ?_ <;> (first | (simp; done) | (simp; omega))) | (refine sLe.drop 1 ?_ ?_ ?_ <;> (simp; done))))
  · intro _
    rw [hr2]
    have hR : exR ⟨t, a, b⟩ = exRun exS0 ((cnL ⟨t, a, b⟩).map (pqAt t)) := rfl
    rw [hR]
    generalize exRun exS0 ((cnL ⟨t, a, b⟩).map (pqAt t)) = R at *
    obtain ⟨c, bg, le, mo⟩ := R
    simp -dsimp [exC, hps_app, Pq.row]
    repeat' (first | omega | (simp -dsimp [E36, ri, cellp, ints, Pq.row]) | (refine Also.intro ?_ fun _ => ?_) | (refine Hold.intro fun _ => ?_) | (refine And.intro ?_ ?_))
  · intro h
    rw [hr2] at h
    cases h
theorem ok36 : FnOK Tryz.prog 36 (.pure extS) := pure_fn (E := E36) rfl (.cons ok68 (.cons ok106 (.cons ok69 .nil))) (ok := [(9, ([], [[0, 1, 2, 3], [0, 2, 1, 3]]))]) (fn := Tryz.f36) (by kernel_rfl) (by kernel_rfl) (by kernel_rfl) (by kernel_rfl) rfl (fun _ _ => by simp) b36
end Go.Sx.Tab
end
section
/- Tables: what the value at a point is. No conditions. -/
set_option linter.unusedSimpArgs false
set_option linter.unusedSectionVars false
namespace Go.Sx.Tab
open Go.Proofs Go.Sx
theorem bsN_lo {l : List Int} {x : Int} {t : Nat} (h : t < bsN l x) : l.getD t 0 < x := by
  have hl : t < l.length := Nat.lt_of_lt_of_le h (bsN_le l x)
  have := List.not_of_lt_findIdx h
  simp only [List.getD, List.getElem?_eq_getElem hl, Option.getD_some]
  simpa using this
theorem bsN_hi {l : List Int} {x : Int} (h : bsN l x < l.length) : x ≤ l.getD (bsN l x) 0 := by
  have := List.findIdx_getElem (p := fun y => decide (x ≤ y)) (xs := l) (w := h)
  simp only [List.getD, List.getElem?_eq_getElem h, Option.getD_some]
  exact of_decide_eq_true this
theorem cel_in {l : List Int} (h : axB l = true) {x : Int} (h0 : l.getD 0 0 ≤ x) (h1 : x ≤ l.getD (l.length - 1) 0) : inC l (celN l x) x := by
  have hl := axB_len h
  have hc := celN_lt hl.1 x
  have hin := inner_len hl.1
  refine ⟨hc, ?_, ?_⟩
  · by_cases e : celN l x = 0
    · rw [e]; exact h0
    · have := bsN_lo (l := (l.drop 1).take (l.length - 2)) (x := x) (t := celN l x - 1) (by show celN l x - 1 < celN l x; omega)
      rw [inner_getD (by omega), show celN l x - 1 + 1 = celN l x by omega] at this
      omega
  · by_cases e : celN l x < l.length - 2
    · have : x ≤ ((l.drop 1).take (l.length - 2)).getD (celN l x) 0 := bsN_hi (l := (l.drop 1).take (l.length - 2)) (x := x) (by rw [hin]; exact e)
      rw [inner_getD e] at this
      exact this
    · rw [show celN l x + 1 = l.length - 1 by omega]; exact h1
theorem axB_gap {l : List Int} (h : axB l = true) {i : Nat} (hi : i + 1 < l.length) : 1 ≤ l.getD (i + 1) 0 - l.getD i 0 ∧ l.getD (i + 1) 0 - l.getD i 0 ≤ 10000 := by
  simp only [axB, Bool.and_eq_true, List.all_eq_true] at h
  have := h.2 (i + 1) (by simpa using hi)
  simp only [axAt, Bool.and_eq_true, Bool.or_eq_true, decide_eq_true_eq, Nat.add_sub_cancel] at this
  rcases this.2 with h1 | h1
  · omega
  · simpa [withinB] using h1
theorem axB_bd {l : List Int} (h : axB l = true) {i : Nat} (hi : i < l.length) : -1000000 ≤ l.getD i 0 ∧ l.getD i 0 ≤ 1000000 := by
  simp only [axB, Bool.and_eq_true, List.all_eq_true] at h
  have := h.2 i (by simpa using hi)
  simp only [axAt, Bool.and_eq_true, far6, Bool.not_not] at this
  simpa [withinB] using this.1
theorem mulSg {x p A B : Int} (h1 : 0 ≤ x) (h2 : x ≤ A) (h3 : -B ≤ p) (h4 : p ≤ B) : -(A * B) ≤ x * p ∧ x * p ≤ A * B := by
  have hB : 0 ≤ B := by omega
  have a1 : x * p ≤ x * B := Int.mul_le_mul_of_nonneg_left h4 h1
  have a2 : x * -B ≤ x * p := Int.mul_le_mul_of_nonneg_left h3 h1
  have a3 : x * B ≤ A * B := Int.mul_le_mul_of_nonneg_right h2 hB
  rw [Int.mul_neg] at a2
  omega
theorem tv_bd {t : Tb} (h : tbB t = true) {i k : Nat} (hi : i < t.xs.length) (hk : k < t.ys.length) : -1000000 ≤ t.v i k ∧ t.v i k ≤ 1000000 := by
  obtain ⟨r, hr, n, hn, e⟩ := row_at h hi hk
  obtain ⟨_, _, _, h4⟩ := tbB_facts h
  rw [e]
  exact (h4 r (List.mem_iff_getElem?.2 ⟨i, hr⟩)).2 n (List.mem_iff_getElem?.2 ⟨k, hn⟩)
theorem atW_eq {X0 X1 Y0 Y1 p q r s x y : Int} (x0 : X0 ≤ x) (x1 : x ≤ X1) (xg : X1 - X0 ≤ 10000) (y0 : Y0 ≤ y) (y1 : y ≤ Y1) (yg : Y1 - Y0 ≤ 10000)
    (xb : -1000000 ≤ X0 ∧ X1 ≤ 1000000) (yb : -1000000 ≤ Y0 ∧ Y1 ≤ 1000000)
    (hp : -1000000 ≤ p ∧ p ≤ 1000000) (hq : -1000000 ≤ q ∧ q ≤ 1000000) (hr : -1000000 ≤ r ∧ r ≤ 1000000) (hs : -1000000 ≤ s ∧ s ≤ 1000000) :
    atW X0 X1 Y0 Y1 p q r s x y = ((X1 - x) * (Y1 - y) * p + (x - X0) * (Y1 - y) * q + (X1 - x) * (y - Y0) * r + (x - X0) * (y - Y0) * s, (X1 - X0) * (Y1 - Y0)) ∧
    -400000000000000 ≤ (atW X0 X1 Y0 Y1 p q r s x y).1 ∧ (atW X0 X1 Y0 Y1 p q r s x y).1 ≤ 400000000000000 := by
  have m1 := mulBd (x := X1 - x) (y := Y1 - y) (A := 10000) (B := 10000) (by omega) (by omega) (by omega) (by omega)
  have m2 := mulBd (x := x - X0) (y := Y1 - y) (A := 10000) (B := 10000) (by omega) (by omega) (by omega) (by omega)
  have m3 := mulBd (x := X1 - x) (y := y - Y0) (A := 10000) (B := 10000) (by omega) (by omega) (by omega) (by omega)
  have m4 := mulBd (x := x - X0) (y := y - Y0) (A := 10000) (B := 10000) (by omega) (by omega) (by omega) (by omega)
  have m5 := mulBd (x := X1 - X0) (y := Y1 - Y0) (A := 10000) (B := 10000) (by omega) (by omega) (by omega) (by omega)
  have e1 : ws X1 x = X1 - x := wrap_id (by omega) (by omega)
  have e2 : ws x X0 = x - X0 := wrap_id (by omega) (by omega)
  have e3 : ws Y1 y = Y1 - y := wrap_id (by omega) (by omega)
  have e4 : ws y Y0 = y - Y0 := wrap_id (by omega) (by omega)
  have e5 : wa (X1 - x) (x - X0) = X1 - X0 := by unfold wa; rw [wrap_id (by omega) (by omega)]; omega
  have e6 : wa (Y1 - y) (y - Y0) = Y1 - Y0 := by unfold wa; rw [wrap_id (by omega) (by omega)]; omega
  unfold atW
  rw [e1, e2, e3, e4, e5, e6]
  generalize X1 - x = a at *
  generalize x - X0 = b at *
  generalize Y1 - y = c at *
  generalize y - Y0 = d at *
  have f1 : wm a c = a * c := wrap_id (by omega) (by omega)
  have f2 : wm b c = b * c := wrap_id (by omega) (by omega)
  have f3 : wm a d = a * d := wrap_id (by omega) (by omega)
  have f4 : wm b d = b * d := wrap_id (by omega) (by omega)
  have f5 : wm (X1 - X0) (Y1 - Y0) = (X1 - X0) * (Y1 - Y0) := wrap_id (by omega) (by omega)
  rw [f1, f2, f3, f4, f5]
  have n1 := mulSg (x := a * c) (p := p) (A := 100000000) (B := 1000000) (by omega) (by omega) hp.1 hp.2
  have n2 := mulSg (x := b * c) (p := q) (A := 100000000) (B := 1000000) (by omega) (by omega) hq.1 hq.2
  have n3 := mulSg (x := a * d) (p := r) (A := 100000000) (B := 1000000) (by omega) (by omega) hr.1 hr.2
  have n4 := mulSg (x := b * d) (p := s) (A := 100000000) (B := 1000000) (by omega) (by omega) hs.1 hs.2
  generalize a * c = u1 at *
  generalize b * c = u2 at *
  generalize a * d = u3 at *
  generalize b * d = u4 at *
  have g1 : wm u1 p = u1 * p := wrap_id (by omega) (by omega)
  have g2 : wm u2 q = u2 * q := wrap_id (by omega) (by omega)
  have g3 : wm u3 r = u3 * r := wrap_id (by omega) (by omega)
  have g4 : wm u4 s = u4 * s := wrap_id (by omega) (by omega)
  rw [g1, g2, g3, g4]
  generalize u1 * p = v1 at *
  generalize u2 * q = v2 at *
  generalize u3 * r = v3 at *
  generalize u4 * s = v4 at *
  have h1 : wa v1 v2 = v1 + v2 := wrap_id (by omega) (by omega)
  rw [h1]
  have h2 : wa (v1 + v2) v3 = v1 + v2 + v3 := wrap_id (by omega) (by omega)
  rw [h2]
  have h3 : wa (v1 + v2 + v3) v4 = v1 + v2 + v3 + v4 := wrap_id (by omega) (by omega)
  rw [h3]
  exact ⟨rfl, by show _ ≤ v1 + v2 + v3 + v4; omega, by show v1 + v2 + v3 + v4 ≤ _; omega⟩
theorem atV_eq {t : Tb} (h : tbB t = true) {x y : Int} (x0 : t.xs.getD 0 0 ≤ x) (x1 : x ≤ t.xs.getD (t.xs.length - 1) 0) (y0 : t.ys.getD 0 0 ≤ y) (y1 : y ≤ t.ys.getD (t.ys.length - 1) 0) :
    atV t x y = (t.num (celN t.xs x) (celN t.ys y) x y, t.den (celN t.xs x) (celN t.ys y)) ∧ Va (atV t x y) := by
  obtain ⟨hax, hay, _⟩ := tbB_facts h
  obtain ⟨i1, i2, i3⟩ := cel_in hax x0 x1
  obtain ⟨k1, k2, k3⟩ := cel_in hay y0 y1
  have gx := axB_gap hax i1
  have gy := axB_gap hay k1
  have bx0 := axB_bd hax (show celN t.xs x < t.xs.length by omega)
  have bx1 := axB_bd hax i1
  have by0 := axB_bd hay (show celN t.ys y < t.ys.length by omega)
  have by1 := axB_bd hay k1
  have hm := mulBd (x := t.xs.getD (celN t.xs x + 1) 0 - t.xs.getD (celN t.xs x) 0) (y := t.ys.getD (celN t.ys y + 1) 0 - t.ys.getD (celN t.ys y) 0) (A := 10000) (B := 10000) (by omega) (by omega) (by omega) (by omega)
  have hpos : 0 < (t.xs.getD (celN t.xs x + 1) 0 - t.xs.getD (celN t.xs x) 0) * (t.ys.getD (celN t.ys y + 1) 0 - t.ys.getD (celN t.ys y) 0) := Int.mul_pos (by omega) (by omega)
  obtain ⟨e1, e2, e3⟩ := atW_eq i2 i3 gx.2 k2 k3 gy.2 ⟨bx0.1, bx1.2⟩ ⟨by0.1, by1.2⟩ (tv_bd h (show celN t.xs x < t.xs.length by omega) (show celN t.ys y < t.ys.length by omega)) (tv_bd h i1 (show celN t.ys y < t.ys.length by omega)) (tv_bd h (show celN t.xs x < t.xs.length by omega) k1) (tv_bd h i1 k1)
  have hA : atV t x y = _ := e1
  refine ⟨hA, ?_⟩
  have e2' : -400000000000000 ≤ (atV t x y).1 := e2
  have e3' : (atV t x y).1 ≤ 400000000000000 := e3
  refine ⟨by omega, by omega, ?_, ?_⟩
  · rw [hA]; exact hpos
  · rw [hA]; show _ ≤ (100000000 : Int); omega
theorem spN_no {s : Sp} (h : spN s = false) : -1000000 ≤ s.lo ∧ s.lo ≤ s.hi ∧ s.hi ≤ 1000000 := by
  simp only [spN, Bool.not_eq_false', Bool.and_eq_true, decide_eq_true_eq, withinB] at h
  omega
theorem bdErr_ok {d : BdD} (h : bdErr d = 0) : tbB d.t = true ∧ (-1000000 ≤ d.a.lo ∧ d.a.lo ≤ d.a.hi ∧ d.a.hi ≤ 1000000) ∧ (-1000000 ≤ d.b.lo ∧ d.b.lo ≤ d.b.hi ∧ d.b.hi ≤ 1000000) ∧ lies d.t.xs d.a ∧ lies d.t.ys d.b := by
  unfold bdErr at h
  split at h
  · rename_i h1
    split at h
    · simp at h
    · rename_i h2
      split at h
      · rename_i h3
        simp only [List.any_cons, List.any_nil, Bool.or_false, Bool.or_eq_true, not_or, Bool.not_eq_true] at h2
        simp only [Bool.and_eq_true, lieB, decide_eq_true_eq] at h3
        exact ⟨h1, spN_no h2.1, spN_no h2.2, h3.1, h3.2⟩
      · simp at h
  · simp at h
theorem corner_in {d : BdD} (h : bdErr d = 0) {p : Int × Int} (hp : p ∈ cnL d) : d.a.lo ≤ p.1 ∧ p.1 ≤ d.a.hi ∧ d.b.lo ≤ p.2 ∧ p.2 ≤ d.b.hi := by
  obtain ⟨_, ha, hb, _⟩ := bdErr_ok h
  simp only [cnL, pts, List.mem_flatMap, List.mem_map] at hp
  obtain ⟨x, hx, y, hy, rfl⟩ := hp
  have h1 := stops_in ha.2.1 hx
  have h2 := stops_in hb.2.1 hy
  exact ⟨h1.1, h1.2, h2.1, h2.2⟩
theorem exP_of {d : BdD} (h : bdErr d = 0) : ExP d := by
  obtain ⟨ht, _, _, la, lb⟩ := bdErr_ok h
  refine ⟨ht, fun p hp => ?_⟩
  obtain ⟨c1, c2, c3, c4⟩ := corner_in h hp
  have := (atV_eq ht (x := p.1) (y := p.2) (by have := la.1; omega) (by have := la.2; omega) (by have := lb.1; omega) (by have := lb.2; omega)).2
  exact this
theorem exRun_va : ∀ (l : List Pq) (s : ExS), (∀ p ∈ l, Va p.v) → (s.bg = true → Va s.le.v ∧ Va s.mo.v) → (s.bg = true ∨ l ≠ []) → Va (exRun s l).le.v ∧ Va (exRun s l).mo.v
  | [], s, _, hb, h => hb (by rcases h with h | h; exact h; exact absurd rfl h)
  | p :: l, s, h, hb, _ => by
    have hp := h p (by simp)
    refine exRun_va l (s.next p) (fun q hq => h q (by simp [hq])) (fun _ => ?_) (.inl rfl)
    simp only [ExS.next]
    constructor
    · split
      · exact hp
      · rename_i hc; exact (hb (by cases hs : s.bg; exact absurd (.inl hs) hc; rfl)).1
    · split
      · exact hp
      · rename_i hc; exact (hb (by cases hs : s.bg; exact absurd (.inl hs) hc; rfl)).2
theorem cnL_ne (d : BdD) : cnL d ≠ [] := by
  intro h
  have : (d.a.lo, d.b.lo) ∈ cnL d := by
    simp only [cnL, pts, List.mem_flatMap, List.mem_map]
    exact ⟨d.a.lo, by simp [stops], d.b.lo, by simp [stops], rfl⟩
  rw [h] at this
  simp at this
theorem exR_va {d : BdD} (h : bdErr d = 0) : Va (exR d).le.v ∧ Va (exR d).mo.v := by
  have hP := exP_of h
  refine exRun_va _ exS0 (fun p hp => ?_) (fun e => by cases e) (.inr fun e => ?_)
  · obtain ⟨q, hq, rfl⟩ := List.mem_map.1 hp
    exact hP.v q hq
  · exact cnL_ne d (by simpa using e)
def boundF (d : BdD) : Sp := ⟨(exR d).le.n / (exR d).le.d, -(-(exR d).mo.n / (exR d).mo.d)⟩
end Go.Sx.Tab
end
section
/- Tables: Bound, and the look at a table. No conditions. -/
set_option linter.unusedSimpArgs false
set_option linter.unusedSectionVars false
set_option maxRecDepth 100000
set_option maxHeartbeats 8000000
namespace Go.Sx.Tab
open Go.Proofs Go.Sx
attribute [local irreducible] HLe
noncomputable abbrev bouS : PSpec := mkP bdE (fun d => TbP d.t) fun d => .tup [if bdErr d = 0 then .agg (boundF d).row else .agg [.int .i64 0, .int .i64 0], .int .i64 (bdErr d)]
noncomputable abbrev E17 : Env := { P := Tryz.prog, fn := tbl [(35, .pure ckpS), (36, .pure extS), (37, .pure floS), (38, .pure upS)], own := [], key := 1700, nt := 37 }
theorem b17 : PureBody E17 [] Tryz.f17 bouS := by
  refine pb ?_
  rintro d hP
  have hP : TbP d.t := hP
  by_cases h0 : bdErr d = 0
  case neg =>
    obtain ⟨t, a, b⟩ := d
    simp -dsimp [Tryz.f17, E17, tabR, Sp.row]
    repeat' (first | omega | (simp -dsimp [E17, ri, cellp, ints, hP, bdE_dec, h0, tabR, Sp.row]) | (refine Also.intro ?_ fun _ => ?_) | (refine Hold.intro fun _ => ?_) | (refine And.intro ?_ ?_))
  have hX := exP_of h0
  obtain ⟨v1, v2⟩ := exR_va h0
  have f1 : FlP ((exR d).le.n, (exR d).le.d) := v1.fl
  have f2 : FlP ((exR d).mo.n, (exR d).mo.d) := v2.fl
  have hB1 : (boundF d).lo = (exR d).le.n / (exR d).le.d := rfl
  have hB2 : (boundF d).hi = -(-(exR d).mo.n / (exR d).mo.d) := rfl
  obtain ⟨t, a, b⟩ := d
  simp -dsimp [Tryz.f17, E17, tabR, Sp.row]
  repeat' (first | omega | (simp -dsimp [E17, ri, cellp, ints, hP, bdE_dec, h0, hX, tabR, Sp.row, Pq.row, f1, f2, i2E_dec, vaE_dec, hB1, hB2]) | (refine Also.intro ?_ fun _ => ?_) | (refine Hold.intro fun _ => ?_) | (refine And.intro ?_ ?_))
theorem ok17 : FnOK Tryz.prog 17 (.pure bouS) := pure_fn (E := E17) rfl (.cons ok35 (.cons ok36 (.cons ok37 (.cons ok38 .nil)))) (ok := []) (fn := Tryz.f17) (by kernel_rfl) (by kernel_rfl) (by kernel_rfl) (by kernel_rfl) rfl (fun _ _ => by simp) b17
def mzT : Tb := ⟨[0, 10, 20], [0, 5], [[0, 10], [20, 30], [10, 50]]⟩
def mzD : BdD := ⟨mzT, ⟨5, 15⟩, ⟨0, 5⟩⟩
theorem mz_err : bdErr mzD = 0 := by decide +kernel
theorem mz_bound : boundF mzD = ⟨10, 40⟩ := by
  have h1 : (boundF mzD).lo = 10 := by decide +kernel
  have h2 : (boundF mzD).hi = 40 := by decide +kernel
  cases h : boundF mzD
  rw [h] at h1 h2
  simp only at h1 h2
  rw [h1, h2]
theorem mz_dec : decC bdE [.agg [.sl 1 [[.int .i64 0], [.int .i64 10], [.int .i64 20]], .sl 1 [[.int .i64 0], [.int .i64 5]], .sl 1 [[.sl 1 [[.int .i64 0], [.int .i64 10]]], [.sl 1 [[.int .i64 20], [.int .i64 30]]], [.sl 1 [[.int .i64 10], [.int .i64 50]]]]], .agg [.int .i64 5, .int .i64 15], .agg [.int .i64 0, .int .i64 5]] = mzD := decC_eq bdE_inj mzD
noncomputable abbrev mesS : PSpec := mkP (D := Unit) (fun _ => []) (fun _ => True) fun _ => .bool true
end Go.Sx.Tab
end
section
/- Fleet: the errors of a met. No conditions. -/
set_option linter.unusedSimpArgs false
set_option linter.unusedSectionVars false
set_option maxRecDepth 100000
set_option maxHeartbeats 2000000
namespace Go.Sx
open Go.Proofs
attribute [local irreducible] HLe
theorem spN_eq (p : Sp) : spN p = !decide (-1000000 ≤ p.lo ∧ p.lo ≤ p.hi ∧ p.hi ≤ 1000000) := by
  unfold spN withinB
  congr 1
  by_cases h : -1000000 ≤ p.lo ∧ p.lo ≤ p.hi ∧ p.hi ≤ 1000000
  · rw [decide_eq_true h, decide_eq_true (by omega), decide_eq_true (by omega)]; rfl
  · rw [decide_eq_false h]
    by_cases h2 : -1000000 ≤ p.lo ∧ p.lo ≤ p.hi
    · rw [decide_eq_true h2, decide_eq_false (by omega)]; rfl
    · rw [decide_eq_false h2]; rfl
noncomputable abbrev E39 : Env := { P := Tryz.prog, fn := tbl [(71, .pure withinS), (66, .pure spdS)], own := [], key := 3900, nt := 9 }
theorem b39 : PureBody E39 [] Tryz.f39 bxkS := by
  refine pb ?_
  rintro l hl
  have hl : l.length ≤ 1000000 := hl
  generalize h1 : l.any spN = b
  generalize h2 : withinB l.length 1 3 = c
  cases b <;> cases c
  all_goals
    simp -dsimp [Tryz.f39, E39]
    repeat' (first | omega | (simp -dsimp [E39, ri, cellp, ints, hl, h1, h2, slE_dec]) | (refine Also.intro ?_ fun _ => ?_) | (refine Hold.intro fun _ => ?_) | (refine And.intro ?_ ?_))
theorem ok39 : FnOK Tryz.prog 39 (.pure bxkS) := pure_fn (E := E39) rfl (.cons ok71 (.cons ok66 .nil)) (ok := []) (fn := Tryz.f39) (by kernel_rfl) (by kernel_rfl) (by kernel_rfl) (by kernel_rfl) rfl (fun _ _ => by simp) b39
end Go.Sx
end
