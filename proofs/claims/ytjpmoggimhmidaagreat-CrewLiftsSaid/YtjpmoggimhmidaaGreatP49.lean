/- A part of a proof; no conditions. -/
import Derived.Test.YtjpmoggimhmidaaGreatP48
import Derived.Test.YtjpmoggimhmidaaGreatP39
set_option linter.unusedSimpArgs false
set_option linter.unusedVariables false
set_option linter.unusedSectionVars false
section
/- Crew: whether a seating is balanced. No conditions. -/
set_option linter.unusedSimpArgs false
set_option linter.unusedSectionVars false
set_option maxRecDepth 100000
set_option maxHeartbeats 2000000
namespace Go.Sx
open Go.Proofs
attribute [local irreducible] awp
attribute [local irreducible] HLe

theorem wgt_bd {c : Ca} {l : List Gu} {f : Sp} (h : LFit c l f) {x : Int} (hx : 0 ≤ x ∧ x ≤ 100000) : 0 < wgt c l x ∧ wgt c l x ≤ 300000 := by
  have h1 := wTo_bd h.gf l.length (Nat.le_refl _)
  have h2 := h.cf.emp
  have h3 := h.n
  have h4 := h.cf.n
  unfold wgt; omega
theorem mom_bd {c : Ca} {l : List Gu} {f : Sp} (h : LFit c l f) (s : List Int) {x : Int} (hx : 0 ≤ x ∧ x ≤ 100000) : -300000000 ≤ mom c l s x ∧ mom c l s x ≤ 300000000 := by
  have h1 := mTo_bd h.cf h.gf s l.length (Nat.le_refl _)
  have h2 := h.cf.emp
  have h3 := h.n
  have h4 := h.cf.n
  have m1 := mul_bd (a := c.emp) (A := 100000) (by omega) h.cf.arm
  have m2 := mul_bd (a := x) (A := 100000) hx h.cf.farm
  unfold mom; omega
def baL (n : Nat) : List (Nat × Site) := [(3408, { base := 0, blks := [{ z := 1, els := [[.bool false]], ty := 4 }] }), (3409, { base := n, blks := [] })]
theorem baL_keys (n : Nat) : (baL n).map (·.1) = [3408, 3409] := rfl
theorem baL_inj (n n' : Nat) (h : ∀ k ∈ [3408, 3409], hps (baL n) noH k = hps (baL n') noH k) : n = n' := by
  have := congrArg Site.base (h 3409 (by simp))
  simpa [baL] using this
abbrev baP (_ : Nat) (x : List V) : Prop := ∃ w m, x = [.agg [.int .i64 w, .int .i64 m]] ∧ 0 ≤ w ∧ w ≤ 300000
def wmW (x : List V) : Int := ((x.getD 0 .top).cs.getD 0 .top).toInt
def wmM (x : List V) : Int := ((x.getD 0 .top).cs.getD 1 .top).toInt
abbrev baG (c : Ca) (_ : Nat) (x : List V) : Bool := ctB c (wmW x) (wmM x)
abbrev baN (n : Nat) (_ : List V) : Nat := n + 1
theorem bal_run (c : Ca) (l : List Gu) (s : List Int) (f : Sp) (h : LFit c l f) : (runS baP (baG c) baN 0 (endL (c, l, s, f))).1 ∧ (runS baP (baG c) baN 0 (endL (c, l, s, f))).2.1 = balB c l f s := by
  have w1 := wgt_bd h (x := f.lo) (by have := h.ff; omega)
  have w2 := wgt_bd h (x := f.hi) (by have := h.ff; omega)
  have p1 : baP 0 (wmV c l s f.lo) := ⟨_, _, rfl, by omega, by omega⟩
  have p2 : baP 1 (wmV c l s f.hi) := ⟨_, _, rfl, by omega, by omega⟩
  have g1 : baG c 0 (wmV c l s f.lo) = ctB c (wgt c l f.lo) (mom c l s f.lo) := rfl
  have g2 : baG c 1 (wmV c l s f.hi) = ctB c (wgt c l f.hi) (mom c l s f.hi) := rfl
  unfold balB endL
  rw [← g1, ← g2]
  simp only [runS]
  cases h1 : baG c 0 (wmV c l s f.lo)
  · exact ⟨p1, rfl⟩
  · cases h2 : baG c 1 (wmV c l s f.hi)
    · simp only [h2]; exact ⟨⟨p1, p2⟩, rfl⟩
    · simp only [h2]; exact ⟨⟨p1, p2, trivial⟩, rfl⟩
noncomputable abbrev balS : PSpec := { dom := Ca × List Gu × List Int × Sp, enc := pcE, dec := fun l => decC pcE (nf2 l), pre := PFit, res := fun d => .bool (balB d.1 d.2.1 d.2.2.2 d.2.2.1) }
noncomputable abbrev E34 : Env := { P := Tryz.prog, fn := tbl [(59, .pure endsS), (86, .iter endI), (29, .pure withinS)], own := [], key := 3400, nt := 30, frz := [(1, [4, 50004])] }
theorem b34 : PureBody E34 [] Tryz.f34 balS := by
  refine pb ?_
  rintro ⟨c, l, s, f⟩ hP
  obtain ⟨hL, hR⟩ := id hP
  simp only at hL hR
  have hlow := hL.cf.low
  have hhigh := hL.cf.high
  simp -dsimp [Tryz.f34, E34, Ca.row, Sp.row]
  repeat' (first | omega | (simp -dsimp [E34, ri, cellp, ints, Ca.row, Sp.row, pcE_dec]) | (refine Also.intro ?_ fun _ => ?_) | (refine Hold.intro fun _ => ?_) | (refine And.intro ?_ ?_))
  obtain ⟨hr1, hr2⟩ := bal_run c l s f hL
  refine awp_range (LC := baL) (keys := [3408, 3409]) (pre := baP) (go := baG c) (nxt := baN) baL_inj baL_keys 0 .ret (endL (c, l, s, f)) (own := [8608, 8610]) (ro := []) (dec := endDec) (by simp; exact ⟨rfl, rfl⟩) (by simp; rfl) rfl (by decide) (by decide) (by decide) ⟨rfl, rfl⟩ ?_ ?_ ?_ hr1 ?_ ?_ ?_
  · intro k hk
    simp at hk
    rcases hk with rfl | rfl <;> rfl
  · intro k hk
    simp at hk
    rcases hk with rfl | rfl <;> rfl
  · have := endDec_at (c, l, s, f)
    simp -dsimp [enE, Ca.row, Sp.row] at this
    rw [this]
    exact ⟨hP, rfl⟩
  · rintro n x hb ⟨w, m, rfl, hw⟩ hy1 hy2
    refine ⟨rfl, ?_⟩
    have mu1 := mul_bd (a := w) (A := 300000) hw hlow
    have mu2 := mul_bd (a := w) (A := 300000) hw hhigh
    rw [Int.mul_comm w c.low] at mu1; rw [Int.mul_comm w c.high] at mu2
    have w1 : IntKind.wrap .i64 (c.low * w) = c.low * w := wrap_id (by omega) (by omega)
    have w2 : IntKind.wrap .i64 (c.high * w) = c.high * w := wrap_id (by omega) (by omega)
    have hG : baG c n [.agg [.int .i64 w, .int .i64 m]] = withinB m (c.low * w) (c.high * w) := rfl
    cases hb1 : withinB m (c.low * w) (c.high * w) <;> rw [hb1] at hG
    all_goals
      simp -dsimp [E34, setT, baL]
      repeat' (first | omega | (simp -dsimp [E34, ri, cellp, ints, w1, w2, hb1, hG, Ca.row, Sp.row]) | (refine Also.intro ?_ fun _ => ?_) | (refine Hold.intro fun _ => ?_) | (refine And.intro ?_ ?_))
      exact (by (try simp -dsimp only [hpush_noH, hpush_hps, hps_over]); refine hle_hpsb ?_; simp -dsimp [allK, baL]; repeat' (first | (refine And.intro ?_ ?_) | (refine sLe.same ?_ ?_ <;> (simp; done)) | (refine sLe.clear ?_ ?_ <;> (first | (simp; done) | (simp; omega))) | (refine sLe.drop 1 ?_ ?_ ?_ <;> (simp; done))))
  · intro h
    rw [hr2] at h
    simp -dsimp [baL, hps_app]
    repeat' (first | omega | (simp -dsimp [E34, ri, cellp, ints, h]) | (refine Also.intro ?_ fun _ => ?_) | (refine Hold.intro fun _ => ?_) | (refine And.intro ?_ ?_))
  · intro h
    rw [hr2] at h
    refine ⟨by simp, ?_⟩
    simp -dsimp [baL, hps_app]
    repeat' (first | omega | (simp -dsimp [E34, ri, cellp, ints, h]) | (refine Also.intro ?_ fun _ => ?_) | (refine Hold.intro fun _ => ?_) | (refine And.intro ?_ ?_))
theorem ok34 : FnOK Tryz.prog 34 (.pure balS) := pure_fn (E := E34) rfl (.cons ok59 (.cons ok86 (.cons ok29 .nil))) (ok := []) (fn := Tryz.f34) (by kernel_rfl) (by kernel_rfl) (by kernel_rfl) (by kernel_rfl) rfl (fun _ _ => by simp) b34
def blV (c : Ca) (l : List Gu) (s : List Int) (f : Sp) : V := .tup [.bool (decide (seaE c l s f = 0) && balB c l f s), .int .i64 (seaE c l s f)]
noncomputable abbrev BalS : PSpec := { dom := Ca × List Gu × List Int × Sp, enc := pcE, dec := fun l => decC pcE (nf2 l), pre := PcP, res := fun d => blV d.1 d.2.1 d.2.2.1 d.2.2.2 }
theorem pfit_of {c : Ca} {l : List Gu} {s : List Int} {f : Sp} (h : seaE c l s f = 0) : PFit (c, l, s, f) := by
  unfold seaE at h
  split at h
  · rename_i h1
    split at h
    · rename_i h2; exact ⟨lodE_zero h1, h2⟩
    · omega
  · rename_i h1; exact absurd h h1
end Go.Sx
end
section
/- Crew, plain: the search of a seating as the program walks it, with its one slice. No conditions. -/
set_option linter.unusedSimpArgs false
set_option linter.unusedSectionVars false
namespace Go.Sx

/-- The slice: 0, it is nil; 1, it is the first that was made; above, how often it was cut; what it holds. -/
structure SS where
  m : Nat
  w : List Int
  deriving DecidableEq, Inhabited
def SS.add (s : SS) (x : Nat) : SS := ⟨if s.m = 0 then 1 else s.m, s.w ++ [(x : Int)]⟩
def SS.back (s : SS) (i : Nat) : SS := ⟨s.m + 1, s.w.take i⟩
def lpX (g : SS → Bool × SS) (c : Ca) (u : Gu) (i : Nat) (s : SS) : Nat → Bool × SS
  | 0 => (false, s)
  | k + 1 => if (lpX g c u i s k).1 = true then lpX g c u i s k
    else if sitsB c u (lpX g c u i s k).2.w k = true then
      (if (g ((lpX g c u i s k).2.add k)).1 = true then (true, (g ((lpX g c u i s k).2.add k)).2) else (false, (g ((lpX g c u i s k).2.add k)).2.back i))
    else (false, (lpX g c u i s k).2)
theorem lpX_stop (g : SS → Bool × SS) (c : Ca) (u : Gu) (i : Nat) (s : SS) {k : Nat} (h : (lpX g c u i s k).1 = true) : ∀ n, lpX g c u i s (k + n) = lpX g c u i s k
  | 0 => rfl
  | n + 1 => by
    have ih := lpX_stop g c u i s h n
    rw [← Nat.add_assoc, lpX, if_pos (by rw [ih]; exact h), ih]
theorem lpX_succ {g : SS → Bool × SS} {c : Ca} {u : Gu} {i : Nat} {s : SS} {k : Nat} (h : (lpX g c u i s k).1 = false) : lpX g c u i s (k + 1) =
    if sitsB c u (lpX g c u i s k).2.w k = true then
      (if (g ((lpX g c u i s k).2.add k)).1 = true then (true, (g ((lpX g c u i s k).2.add k)).2) else (false, (g ((lpX g c u i s k).2.add k)).2.back i))
    else (false, (lpX g c u i s k).2) := by
  rw [lpX, if_neg (by rw [h]; decide)]
def sitX (c : Ca) (l : List Gu) (f : Sp) : Nat → SS → Bool × SS
  | 0, s => (balB c l f s.w, s)
  | m + 1, s => lpX (sitX c l f m) c (guAt l s.w.length) s.w.length s c.st.length
/-- The state is one that occurs. -/
def SS.Ok (s : SS) : Prop := s.m = 0 → s.w = []
theorem SS.Ok.add (s : SS) (x : Nat) : (s.add x).Ok := by intro h; simp only [SS.add] at h; split at h <;> omega
theorem SS.Ok.back (s : SS) (i : Nat) : (s.back i).Ok := by intro h; simp [SS.back] at h
theorem SS.add_m (s : SS) (x : Nat) : s.m ≤ (s.add x).m ∧ 1 ≤ (s.add x).m := by unfold SS.add; split <;> simp_all <;> omega
structure SX (c : Ca) (l : List Gu) (f : Sp) (s : SS) (F : Option (List Int)) (r : Bool × SS) : Prop where
  ok : r.2.Ok
  m : s.m ≤ r.2.m
  yes : r.1 = true → F = some r.2.w
  no : r.1 = false → F = none ∧ r.2.w = s.w
def stepF (c : Ca) (l : List Gu) (f : Sp) (m : Nat) (b : List Int) (s : Nat) : Option (List Int) := if sitsB c (guAt l b.length) b s = true then sitF c l f m (b ++ [(s : Int)]) else none
theorem findSome_snoc {α β : Type} (g : α → Option β) (l : List α) (x : α) : (l ++ [x]).findSome? g = (l.findSome? g).or (g x) := by
  rw [List.findSome?_append]; simp
theorem sitX_lp (c : Ca) (l : List Gu) (f : Sp) (m : Nat) (ih2 : ∀ s : SS, s.Ok → SX c l f s (sitF c l f m s.w) (sitX c l f m s)) (s : SS) (h : s.Ok) : ∀ k, SX c l f s ((List.range k).findSome? (stepF c l f m s.w)) (lpX (sitX c l f m) c (guAt l s.w.length) s.w.length s k)
  | 0 => ⟨h, Nat.le_refl _, fun hb => by simp [lpX] at hb, fun _ => ⟨rfl, rfl⟩⟩
  | k + 1 => by
    have ih := sitX_lp c l f m ih2 s h k
    rw [lpX]
    generalize lpX (sitX c l f m) c (guAt l s.w.length) s.w.length s k = r at *
    obtain ⟨b, t⟩ := r
    obtain ⟨ok, mm, yes, no⟩ := ih
    dsimp only at *
    rw [List.range_succ]
    by_cases hb : b = true
    · rw [if_pos hb]
      exact ⟨ok, mm, fun _ => by rw [findSome_snoc, yes hb]; rfl, fun h0 => by simp only at h0; rw [hb] at h0; cases h0⟩
    · rw [if_neg hb]
      obtain ⟨n1, n2⟩ := no (by simpa using hb)
      by_cases hs : sitsB c (guAt l s.w.length) t.w k = true
      · rw [if_pos hs]
        have hw : (t.add k).w = s.w ++ [(k : Int)] := by simp [SS.add, n2]
        have hst : stepF c l f m s.w k = sitF c l f m (t.add k).w := by
          unfold stepF; rw [← n2] at hs ⊢; rw [if_pos hs, hw, n2]
        obtain ⟨a1, a2, a3, a4⟩ := ih2 (t.add k) (SS.Ok.add t k)
        generalize sitX c l f m (t.add k) = r at *
        obtain ⟨b', u⟩ := r
        dsimp only at *
        have hk1 : s.m ≤ u.m := Nat.le_trans mm (Nat.le_trans (SS.add_m t k).1 a2)
        by_cases hb' : b' = true
        · rw [if_pos hb']
          exact ⟨a1, hk1, fun _ => by rw [findSome_snoc, n1, hst, a3 hb']; rfl, fun h0 => by simp at h0⟩
        · rw [if_neg hb']
          obtain ⟨c1, c2⟩ := a4 (by simpa using hb')
          refine ⟨SS.Ok.back u _, by simp [SS.back]; omega, fun h0 => by simp at h0, fun _ => ⟨by rw [findSome_snoc, n1, hst, c1]; rfl, ?_⟩⟩
          simp only [SS.back, c2, hw]
          rw [List.take_left' rfl]
      · rw [if_neg hs]
        refine ⟨ok, mm, fun h0 => by simp at h0, fun _ => ⟨?_, n2⟩⟩
        rw [findSome_snoc, n1]
        unfold stepF; rw [← n2] at hs ⊢; rw [if_neg hs]; rfl
theorem sitX_ok (c : Ca) (l : List Gu) (f : Sp) : ∀ (m : Nat) (s : SS), s.Ok → SX c l f s (sitF c l f m s.w) (sitX c l f m s)
  | 0, s, h => ⟨h, Nat.le_refl _, fun hb => by
      have hb : balB c l f s.w = true := hb
      rw [sitF, if_pos hb]; rfl, fun hb => by
      have hb : balB c l f s.w = false := hb
      rw [sitF, if_neg (by simp [hb])]; exact ⟨rfl, rfl⟩⟩
  | m + 1, s, h => sitX_lp c l f m (sitX_ok c l f m) s h c.st.length
end Go.Sx
end
