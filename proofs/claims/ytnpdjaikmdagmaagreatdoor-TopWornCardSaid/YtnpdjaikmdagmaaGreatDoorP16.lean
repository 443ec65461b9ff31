/- A part of a proof; no conditions. -/
import Derived.Test.YtnpdjaikmdagmaaGreatDoorP15
set_option linter.unusedSimpArgs false
set_option linter.unusedVariables false
set_option linter.unusedSectionVars false
section
/- Parts: a work. No conditions. -/
set_option linter.unusedSimpArgs false
set_option linter.unusedSectionVars false
set_option maxRecDepth 100000
set_option maxHeartbeats 2000000
namespace Go.Sx
open Go.Proofs
attribute [local irreducible] HLe
attribute [local simp] hps_app

def Wk.alone (w : Wk) : Bool := w.b == 0 && w.c == 0
def HG.takeOk (s : HG) (n : Int) : Bool := s.i.part n && decide (0 ≤ (s.ps.getD n.toNat default).a)
def HG.put (s : HG) (n a b : Int) : HG := { s with ps := s.ps.set n.toNat { s.ps.getD n.toNat default with a := a, b := b } }
def HG.hist (s : HG) (n : Int) : Nat := match s.hi.getD n.toNat none with | some (i, _) => i | none => 0
def HG.takeDo (s : HG) (n : Int) : HG := (s.put n (-1) (-1)).endd (s.hist n) s.wk
def HG.issueOk (s : HG) (n : Int) : Bool := s.i.order n && !s.iss.getD n.toNat false
def HG.issueDo (s : HG) (n : Int) : HG := { s with iss := s.iss.set n.toNat true }
def HG.scrapOk (s : HG) (n : Int) : Bool := s.i.part n && ((s.ps.getD n.toNat default).a == -1 && (s.ps.getD n.toNat default).b == -1)
def HG.doOk (s : HG) (w : Wk) : Bool :=
  if w.kind = 1 then s.flyOk w.a w.b w.c else if w.kind = 2 then s.fitOk w.a w.b w.c else if w.kind = 5 then (w.c == 0 && s.chkOk w.a w.b) else
  if w.kind = 3 then (w.alone && s.takeOk w.a) else if w.kind = 4 then (w.alone && s.issueOk w.a) else if w.kind = 6 then (w.alone && s.scrapOk w.a) else false
def HG.doDo (s : HG) (w : Wk) : HG :=
  if w.kind = 1 then s.flyDo w.a w.b w.c else if w.kind = 2 then s.fitDo w.a w.b w.c else if w.kind = 5 then s.chkDo w.a w.b else
  if w.kind = 3 then s.takeDo w.a else if w.kind = 4 then s.issueDo w.a else if w.kind = 6 then s.put w.a (-2) (-2) else s
def HG.after (s : HG) (w : Wk) : HG := if s.doOk w = true then s.doDo w else s
@[simp] def doE (_ : HG) (w : Wk) : List V := [.bptr 4919 0 1 0 0, .agg w.row]
theorem doE_inj (s : HG) (d d' : Wk) (h : doE s d = doE s d') : d = d' := Wk.row_inj _ _ (by simpa using h)
abbrev doOwn : List Nat := [5003, 8810]
noncomputable abbrev doS : HSpec := obS hgL hkeys doE (fun s _ h => s.Ok ∧ Blank doOwn h) (fun s w _ => .bool (s.doOk w)) HG.after fun _ _ h => bmp doOwn 1 h
theorem do_go (s : HG) (w : Wk) (h : Hp) : doS.go [.bptr 4919 0 1 0 0, .agg w.row] (Ob hgL s h) = ⟨s.Ok ∧ Blank doOwn (Ob hgL s h), .bool (s.doOk w), Ob hgL (s.after w) (bmp doOwn 1 (Ob hgL s h))⟩ :=
  obS_go hgL_keys hgL_inj doE_inj s w h
theorem take_eq {s : HG} {n : Nat} {p : PS} (hp : s.ps[n]? = some p) (a b : Int) : s.put n a b = { s with ps := s.ps.set n ⟨p.kind, p.hours, p.cycles, p.known, a, b, p.since, p.chk⟩ } := by simp [HG.put, List.getD, hp]
noncomputable abbrev E50 : Env := { P := Tryz.prog, fn := tbl [(87, .heap flyS), (88, .heap fitS), (89, .heap checkS), (30, .pure partS), (90, .pure orderS), (31, .heap endS)], own := [], key := 5000, nt := 165 }
theorem b50 : HeapBody E50 [] Tryz.f50 doS := by
  intro args h hc
  obtain ⟨s, ⟨k, a, b, c⟩, hh, rfl, ⟨hok, hbk⟩, hgo⟩ := obS_inv hgL_keys hc
  rw [hgo]
  clear hgo hc
  obtain ⟨h0, rfl⟩ : ∃ h0, h = Ob hgL s h0 := ⟨h, hh⟩
  clear hh
  have hk := hok.hok
  have hb : ∀ k ∈ doOwn, h0 k = { base := (h0 k).base, blks := [] } := by
    intro k hk
    have := hbk k hk
    rw [g_ne _ _ (by simp only [doOwn, List.mem_cons, List.not_mem_nil, or_false] at hk; rcases hk with rfl | rfl <;> simp)] at this
    exact this
  clear hbk
  have hh0 : h0 = hps [(5003, { base := (h0 5003).base, blks := [] }), (8810, { base := (h0 8810).base, blks := [] })] h0 := Blank.self (own := doOwn) hb
  clear hb
  generalize (h0 5003).base = e1 at hh0
  generalize (h0 8810).base = e2 at hh0
  rw [hh0]
  clear hh0
  have hrow : ∀ k a b c, Wk.row ⟨k, a, b, c⟩ = [.int .i64 k, .int .i64 a, .int .i64 b, .int .i64 c] := fun _ _ _ _ => rfl
  simp only [bmp, doOwn, List.map_cons, List.map_nil, doE, hrow]
  have hbl : ∀ (S : Site) (x : Nat), Blank [8810] (Ob hgL s (hps [(5003, S), (8810, { base := x, blks := [] })] h0)) := by
    intro S x k hk
    simp only [List.mem_cons, List.not_mem_nil, or_false] at hk
    subst hk; simp
  by_cases k1 : k = 1
  · subst k1
    have h1 : s.doOk ⟨1, a, b, c⟩ = s.flyOk a b c := by simp [HG.doOk]
    have h2 : s.after ⟨1, a, b, c⟩ = if s.flyOk a b c = true then s.flyDo a b c else s := by simp [HG.after, HG.doDo, h1]
    rw [h1, h2]
    by_cases hb : b = 0 <;> by_cases hc : c = 0 <;> simp -dsimp [Tryz.f50, E50, hb, hc, -lendN, -lend1] <;> repeat' (first | omega | (simp -dsimp [E50, ri, cellp, ints, -lendN, -lend1, hb, hc, hk, g_hset, fly_go, hok]) | (refine Also.intro ?_ fun _ => ?_) | (refine Hold.intro fun _ => ?_) | (refine And.intro ?_ ?_))
    all_goals exact (by (try simp -dsimp only [hpush_hps, hps_app, List.cons_append, List.nil_append, hps_over]); refine ob_hle ?_; simp -dsimp [allK, ]; repeat' (first | (refine And.intro ?_ ?_) | (refine sLe.same ?_ ?_ <;> (simp; done)) | (refine sLe.clear ?_ ?_ <;> (first | (simp; done) | (simp; omega))) | (refine sLe.drop 1 ?_ ?_ ?_ <;> (simp; done))))
  by_cases k2 : k = 2
  · subst k2
    have h1 : s.doOk ⟨2, a, b, c⟩ = s.fitOk a b c := by simp [HG.doOk]
    have h2 : s.after ⟨2, a, b, c⟩ = if s.fitOk a b c = true then s.fitDo a b c else s := by simp [HG.after, HG.doDo, h1]
    rw [h1, h2]
    by_cases hb : b = 0 <;> by_cases hc : c = 0 <;> simp -dsimp [Tryz.f50, E50, hb, hc, -lendN, -lend1] <;> repeat' (first | omega | (simp -dsimp [E50, ri, cellp, ints, -lendN, -lend1, hb, hc, hk, g_hset, fit_go, hok, hbl, bmp]) | (refine Also.intro ?_ fun _ => ?_) | (refine Hold.intro fun _ => ?_) | (refine And.intro ?_ ?_))
    all_goals exact (by (try simp -dsimp only [hpush_hps, hps_app, List.cons_append, List.nil_append, hps_over]); refine ob_hle ?_; simp -dsimp [allK, ]; repeat' (first | (refine And.intro ?_ ?_) | (refine sLe.same ?_ ?_ <;> (simp; done)) | (refine sLe.clear ?_ ?_ <;> (first | (simp; done) | (simp; omega))) | (refine sLe.drop 1 ?_ ?_ ?_ <;> (simp; done))))
  by_cases k5 : k = 5
  · subst k5
    by_cases hc : c = 0
    · subst hc
      have h1 : s.doOk ⟨5, a, b, 0⟩ = s.chkOk a b := by simp [HG.doOk]
      have h2 : s.after ⟨5, a, b, 0⟩ = if s.chkOk a b = true then s.chkDo a b else s := by rw [← h1]; simp [HG.after, HG.doDo]
      rw [h1, h2]
      by_cases hb : b = 0 <;> simp -dsimp [Tryz.f50, E50, hb, -lendN, -lend1] <;> repeat' (first | omega | (simp -dsimp [E50, ri, cellp, ints, -lendN, -lend1, hb, hk, g_hset, check_go, hok]) | (refine Also.intro ?_ fun _ => ?_) | (refine Hold.intro fun _ => ?_) | (refine And.intro ?_ ?_))
      all_goals exact (by (try simp -dsimp only [hpush_hps, hps_app, List.cons_append, List.nil_append, hps_over]); refine ob_hle ?_; simp -dsimp [allK, ]; repeat' (first | (refine And.intro ?_ ?_) | (refine sLe.same ?_ ?_ <;> (simp; done)) | (refine sLe.clear ?_ ?_ <;> (first | (simp; done) | (simp; omega))) | (refine sLe.drop 1 ?_ ?_ ?_ <;> (simp; done))))
    · have hc' : (c == 0) = false := by simpa using hc
      have h1 : s.doOk ⟨5, a, b, c⟩ = false := by simp [HG.doOk, hc]
      have h2 : s.after ⟨5, a, b, c⟩ = s := by simp [HG.after, h1]
      rw [h1, h2]
      by_cases hb : b = 0 <;> simp -dsimp [Tryz.f50, E50, hb, hc, -lendN, -lend1] <;> repeat' (first | omega | (simp -dsimp [E50, ri, cellp, ints, -lendN, -lend1, hb, hc, hc', hk, g_hset, check_go, hok]) | (refine Also.intro ?_ fun _ => ?_) | (refine Hold.intro fun _ => ?_) | (refine And.intro ?_ ?_))
      all_goals exact (by (try simp -dsimp only [hpush_hps, hps_app, List.cons_append, List.nil_append, hps_over]); refine ob_hle ?_; simp -dsimp [allK, ]; repeat' (first | (refine And.intro ?_ ?_) | (refine sLe.same ?_ ?_ <;> (simp; done)) | (refine sLe.clear ?_ ?_ <;> (first | (simp; done) | (simp; omega))) | (refine sLe.drop 1 ?_ ?_ ?_ <;> (simp; done))))
  by_cases hal : b = 0 ∧ c = 0
  case neg =>
    have hal' : (b == 0 && c == 0) = false := by
      cases h : (b == 0 && c == 0)
      · rfl
      · exact absurd (by simpa using h) hal
    have h1 : s.doOk ⟨k, a, b, c⟩ = false := by simp [HG.doOk, Wk.alone, k1, k2, k5, hal']
    have h2 : s.after ⟨k, a, b, c⟩ = s := by simp [HG.after, h1]
    rw [h1, h2]
    by_cases k3 : k = 3
    · subst k3
      by_cases hb : b = 0
      · have hc : ¬ c = 0 := fun h => hal ⟨hb, h⟩
        simp -dsimp [Tryz.f50, E50, hb, hc, -lendN, -lend1]
        repeat' (first | omega | (simp -dsimp [E50, ri, cellp, ints, -lendN, -lend1, hb, hc, hk, g_hset]) | (refine Also.intro ?_ fun _ => ?_) | (refine Hold.intro fun _ => ?_) | (refine And.intro ?_ ?_))
        exact (by (try simp -dsimp only [hpush_hps, hps_app, List.cons_append, List.nil_append, hps_over]); refine ob_hle ?_; simp -dsimp [allK, ]; repeat' (first | (refine And.intro ?_ ?_) | (refine sLe.same ?_ ?_ <;> (simp; done)) | (refine sLe.clear ?_ ?_ <;> (first | (simp; done) | (simp; omega))) | (refine sLe.drop 1 ?_ ?_ ?_ <;> (simp; done))))
      · simp -dsimp [Tryz.f50, E50, hb, -lendN, -lend1]
        repeat' (first | omega | (simp -dsimp [E50, ri, cellp, ints, -lendN, -lend1, hb, hk, g_hset]) | (refine Also.intro ?_ fun _ => ?_) | (refine Hold.intro fun _ => ?_) | (refine And.intro ?_ ?_))
        exact (by (try simp -dsimp only [hpush_hps, hps_app, List.cons_append, List.nil_append, hps_over]); refine ob_hle ?_; simp -dsimp [allK, ]; repeat' (first | (refine And.intro ?_ ?_) | (refine sLe.same ?_ ?_ <;> (simp; done)) | (refine sLe.clear ?_ ?_ <;> (first | (simp; done) | (simp; omega))) | (refine sLe.drop 1 ?_ ?_ ?_ <;> (simp; done))))
    by_cases k4 : k = 4
    · subst k4
      by_cases hb : b = 0
      · have hc : ¬ c = 0 := fun h => hal ⟨hb, h⟩
        simp -dsimp [Tryz.f50, E50, hb, hc, -lendN, -lend1]
        repeat' (first | omega | (simp -dsimp [E50, ri, cellp, ints, -lendN, -lend1, hb, hc, hk, g_hset]) | (refine Also.intro ?_ fun _ => ?_) | (refine Hold.intro fun _ => ?_) | (refine And.intro ?_ ?_))
        exact (by (try simp -dsimp only [hpush_hps, hps_app, List.cons_append, List.nil_append, hps_over]); refine ob_hle ?_; simp -dsimp [allK, ]; repeat' (first | (refine And.intro ?_ ?_) | (refine sLe.same ?_ ?_ <;> (simp; done)) | (refine sLe.clear ?_ ?_ <;> (first | (simp; done) | (simp; omega))) | (refine sLe.drop 1 ?_ ?_ ?_ <;> (simp; done))))
      · simp -dsimp [Tryz.f50, E50, hb, -lendN, -lend1]
        repeat' (first | omega | (simp -dsimp [E50, ri, cellp, ints, -lendN, -lend1, hb, hk, g_hset]) | (refine Also.intro ?_ fun _ => ?_) | (refine Hold.intro fun _ => ?_) | (refine And.intro ?_ ?_))
        exact (by (try simp -dsimp only [hpush_hps, hps_app, List.cons_append, List.nil_append, hps_over]); refine ob_hle ?_; simp -dsimp [allK, ]; repeat' (first | (refine And.intro ?_ ?_) | (refine sLe.same ?_ ?_ <;> (simp; done)) | (refine sLe.clear ?_ ?_ <;> (first | (simp; done) | (simp; omega))) | (refine sLe.drop 1 ?_ ?_ ?_ <;> (simp; done))))
    by_cases k6 : k = 6
    · subst k6
      by_cases hb : b = 0
      · have hc : ¬ c = 0 := fun h => hal ⟨hb, h⟩
        simp -dsimp [Tryz.f50, E50, hb, hc, -lendN, -lend1]
        repeat' (first | omega | (simp -dsimp [E50, ri, cellp, ints, -lendN, -lend1, hb, hc, hk, g_hset]) | (refine Also.intro ?_ fun _ => ?_) | (refine Hold.intro fun _ => ?_) | (refine And.intro ?_ ?_))
        exact (by (try simp -dsimp only [hpush_hps, hps_app, List.cons_append, List.nil_append, hps_over]); refine ob_hle ?_; simp -dsimp [allK, ]; repeat' (first | (refine And.intro ?_ ?_) | (refine sLe.same ?_ ?_ <;> (simp; done)) | (refine sLe.clear ?_ ?_ <;> (first | (simp; done) | (simp; omega))) | (refine sLe.drop 1 ?_ ?_ ?_ <;> (simp; done))))
      · simp -dsimp [Tryz.f50, E50, hb, -lendN, -lend1]
        repeat' (first | omega | (simp -dsimp [E50, ri, cellp, ints, -lendN, -lend1, hb, hk, g_hset]) | (refine Also.intro ?_ fun _ => ?_) | (refine Hold.intro fun _ => ?_) | (refine And.intro ?_ ?_))
        exact (by (try simp -dsimp only [hpush_hps, hps_app, List.cons_append, List.nil_append, hps_over]); refine ob_hle ?_; simp -dsimp [allK, ]; repeat' (first | (refine And.intro ?_ ?_) | (refine sLe.same ?_ ?_ <;> (simp; done)) | (refine sLe.clear ?_ ?_ <;> (first | (simp; done) | (simp; omega))) | (refine sLe.drop 1 ?_ ?_ ?_ <;> (simp; done))))
    by_cases hb : b = 0 <;> by_cases hc : c = 0 <;> simp -dsimp [Tryz.f50, E50, hb, hc, k1, k2, k3, k4, k5, k6, -lendN, -lend1] <;> repeat' (first | omega | (simp -dsimp [E50, ri, cellp, ints, -lendN, -lend1, hb, hc, hk, k1, k2, k3, k4, k5, k6, g_hset]) | (refine Also.intro ?_ fun _ => ?_) | (refine Hold.intro fun _ => ?_) | (refine And.intro ?_ ?_))
    all_goals exact (by (try simp -dsimp only [hpush_hps, hps_app, List.cons_append, List.nil_append, hps_over]); refine ob_hle ?_; simp -dsimp [allK, ]; repeat' (first | (refine And.intro ?_ ?_) | (refine sLe.same ?_ ?_ <;> (simp; done)) | (refine sLe.clear ?_ ?_ <;> (first | (simp; done) | (simp; omega))) | (refine sLe.drop 1 ?_ ?_ ?_ <;> (simp; done))))
  obtain ⟨hb, hc⟩ := hal
  subst hb
  subst hc
  by_cases k3 : k = 3
  · subst k3
    have h1 : s.doOk ⟨3, a, 0, 0⟩ = s.takeOk a := by simp [HG.doOk, Wk.alone]
    have h2 : s.after ⟨3, a, 0, 0⟩ = if s.takeOk a = true then s.takeDo a else s := by rw [← h1]; simp [HG.after, HG.doDo]
    rw [h1, h2]
    cases c1 : s.i.part a
    · have hf : s.takeOk a = false := by simp [HG.takeOk, c1]
      simp -dsimp [Tryz.f50, E50, -lendN, -lend1]
      repeat' (first | omega | (simp -dsimp [E50, ri, cellp, ints, -lendN, -lend1, hk, g_hset, HI.v, hiE_dec', c1, hf]) | (refine Also.intro ?_ fun _ => ?_) | (refine Hold.intro fun _ => ?_) | (refine And.intro ?_ ?_))
      exact (by (try simp -dsimp only [hpush_hps, hps_app, List.cons_append, List.nil_append, hps_over]); refine ob_hle ?_; simp -dsimp [allK, ]; repeat' (first | (refine And.intro ?_ ?_) | (refine sLe.same ?_ ?_ <;> (simp; done)) | (refine sLe.clear ?_ ?_ <;> (first | (simp; done) | (simp; omega))) | (refine sLe.drop 1 ?_ ?_ ?_ <;> (simp; done))))
    have hps := hok.ps
    obtain ⟨ni, rfl, hni⟩ := withinB_nat (m := s.ps.length) (by omega) c1
    obtain ⟨p, hp, hp'⟩ := get_ex hni
    have hpts := ptsV_ne (n := s.ps.length) (by omega)
    have hptB := ptsB_ne (n := s.ps.length) (by omega)
    have hmx := mapIdx_get hp
    have hgp : s.ps.getD ni default = p := by simp [List.getD, hp]
    have hval : s.takeOk ni = decide (0 ≤ p.a) := by simp only [HG.takeOk, c1, Int.toNat_natCast, hgp, Bool.true_and]
    by_cases hpa : p.a < 0
    · have hf : s.takeOk ni = false := by rw [hval]; simp; omega
      simp -dsimp [Tryz.f50, E50, -lendN, -lend1]
      repeat' (first | omega | (simp -dsimp [E50, ri, cellp, ints, -lendN, -lend1, hk, g_hset, HI.v, hiE_dec', c1, hf, hni, hp, hp', hpts, hptB, PS.blk, PS.row, hpa]) | (refine Also.intro ?_ fun _ => ?_) | (refine Hold.intro fun _ => ?_) | (refine And.intro ?_ ?_))
      exact (by (try simp -dsimp only [hpush_hps, hps_app, List.cons_append, List.nil_append, hps_over]); refine ob_hle ?_; simp -dsimp [allK, ]; repeat' (first | (refine And.intro ?_ ?_) | (refine sLe.same ?_ ?_ <;> (simp; done)) | (refine sLe.clear ?_ ?_ <;> (first | (simp; done) | (simp; omega))) | (refine sLe.drop 1 ?_ ?_ ?_ <;> (simp; done))))
    have hf : s.takeOk ni = true := by rw [hval]; simp; omega
    obtain ⟨_, i, l, hh1, hh2⟩ := hok.at_ ni p hp (by omega)
    obtain ⟨hnh, hh1'⟩ := List.getElem?_eq_some_iff.1 hh1
    have hdo : s.takeDo ni = ({ s with ps := s.ps.set ni ⟨p.kind, p.hours, p.cycles, p.known, -1, -1, p.since, p.chk⟩ } : HG).endd i s.wk := by
      rw [HG.takeDo, take_eq hp]; simp [HG.hist, List.getD, hh1]
    have hw := fun h a b c e f d => w_part (s := s) (h := h) hp a b c e f d
    have hE : ∃ l', EndOk ({ s with ps := s.ps.set ni ⟨p.kind, p.hours, p.cycles, p.known, -1, -1, p.since, p.chk⟩ } : HG) i l' ∧ l.length = l'.length := ⟨l, ⟨hh2.at_, hh2.ne, hh2.len, hh2.m0, hh2.m1⟩, rfl⟩
    simp -dsimp [Tryz.f50, E50, -lendN, -lend1]
    repeat' (first | omega | (simp -dsimp [E50, ri, cellp, ints, -lendN, -lend1, hk, g_hset, HI.v, hiE_dec', c1, hf, hni, hp, hp', hpts, hptB, PS.blk, PS.row, hpa, hw, hnh, hh1, hh1', hiV_some, end_go, hE, hdo]) | (refine Also.intro ?_ fun _ => ?_) | (refine Hold.intro fun _ => ?_) | (refine And.intro ?_ ?_))
    all_goals exact (by (try simp -dsimp only [hpush_hps, hps_app, List.cons_append, List.nil_append, hps_over]); refine ob_hle ?_; simp -dsimp [allK, ]; repeat' (first | (refine And.intro ?_ ?_) | (refine sLe.same ?_ ?_ <;> (simp; done)) | (refine sLe.clear ?_ ?_ <;> (first | (simp; done) | (simp; omega))) | (refine sLe.drop 1 ?_ ?_ ?_ <;> (simp; done))))
  by_cases k4 : k = 4
  · subst k4
    have h1 : s.doOk ⟨4, a, 0, 0⟩ = s.issueOk a := by simp [HG.doOk, Wk.alone]
    have h2 : s.after ⟨4, a, 0, 0⟩ = if s.issueOk a = true then s.issueDo a else s := by rw [← h1]; simp [HG.after, HG.doDo]
    rw [h1, h2]
    cases c1 : s.i.order a
    · have hf : s.issueOk a = false := by simp [HG.issueOk, c1]
      simp -dsimp [Tryz.f50, E50, -lendN, -lend1]
      repeat' (first | omega | (simp -dsimp [E50, ri, cellp, ints, -lendN, -lend1, hk, g_hset, HI.v, hiE_dec', c1, hf]) | (refine Also.intro ?_ fun _ => ?_) | (refine Hold.intro fun _ => ?_) | (refine And.intro ?_ ?_))
      exact (by (try simp -dsimp only [hpush_hps, hps_app, List.cons_append, List.nil_append, hps_over]); refine ob_hle ?_; simp -dsimp [allK, ]; repeat' (first | (refine And.intro ?_ ?_) | (refine sLe.same ?_ ?_ <;> (simp; done)) | (refine sLe.clear ?_ ?_ <;> (first | (simp; done) | (simp; omega))) | (refine sLe.drop 1 ?_ ?_ ?_ <;> (simp; done))))
    have hos := hok.orders
    obtain ⟨oi, rfl, hoi⟩ := withinB_nat (m := s.r.orders.length) (by omega) c1
    have l1 : oi < s.iss.length := by have := hok.iss; omega
    obtain ⟨b1, hb1, hb1'⟩ := get_ex l1
    have hgb : s.iss.getD oi false = b1 := by simp [List.getD, hb1]
    have hval : s.issueOk oi = !b1 := by simp only [HG.issueOk, c1, Int.toNat_natCast, hgb, Bool.true_and]
    have hw := fun h => w_iss (s := s) (h := h) (j := oi) true
    have hdo : s.issueDo oi = { s with iss := s.iss.set oi true } := rfl
    cases b1
    · have hf : s.issueOk oi = true := by rw [hval]; rfl
      simp -dsimp [Tryz.f50, E50, -lendN, -lend1]
      repeat' (first | omega | (simp -dsimp [E50, ri, cellp, ints, -lendN, -lend1, hk, g_hset, HI.v, hiE_dec', c1, hf, l1, hb1, hb1', rb, hw, hdo]) | (refine Also.intro ?_ fun _ => ?_) | (refine Hold.intro fun _ => ?_) | (refine And.intro ?_ ?_))
      all_goals exact (by (try simp -dsimp only [hpush_hps, hps_app, List.cons_append, List.nil_append, hps_over]); refine ob_hle ?_; simp -dsimp [allK, ]; repeat' (first | (refine And.intro ?_ ?_) | (refine sLe.same ?_ ?_ <;> (simp; done)) | (refine sLe.clear ?_ ?_ <;> (first | (simp; done) | (simp; omega))) | (refine sLe.drop 1 ?_ ?_ ?_ <;> (simp; done))))
    · have hf : s.issueOk oi = false := by rw [hval]; rfl
      simp -dsimp [Tryz.f50, E50, -lendN, -lend1]
      repeat' (first | omega | (simp -dsimp [E50, ri, cellp, ints, -lendN, -lend1, hk, g_hset, HI.v, hiE_dec', c1, hf, l1, hb1, hb1', rb]) | (refine Also.intro ?_ fun _ => ?_) | (refine Hold.intro fun _ => ?_) | (refine And.intro ?_ ?_))
      all_goals exact (by (try simp -dsimp only [hpush_hps, hps_app, List.cons_append, List.nil_append, hps_over]); refine ob_hle ?_; simp -dsimp [allK, ]; repeat' (first | (refine And.intro ?_ ?_) | (refine sLe.same ?_ ?_ <;> (simp; done)) | (refine sLe.clear ?_ ?_ <;> (first | (simp; done) | (simp; omega))) | (refine sLe.drop 1 ?_ ?_ ?_ <;> (simp; done))))
  by_cases k6 : k = 6
  · subst k6
    have h1 : s.doOk ⟨6, a, 0, 0⟩ = s.scrapOk a := by simp [HG.doOk, Wk.alone]
    have h2 : s.after ⟨6, a, 0, 0⟩ = if s.scrapOk a = true then s.put a (-2) (-2) else s := by rw [← h1]; simp [HG.after, HG.doDo]
    rw [h1, h2]
    cases c1 : s.i.part a
    · have hf : s.scrapOk a = false := by simp [HG.scrapOk, c1]
      simp -dsimp [Tryz.f50, E50, -lendN, -lend1]
      repeat' (first | omega | (simp -dsimp [E50, ri, cellp, ints, -lendN, -lend1, hk, g_hset, HI.v, hiE_dec', c1, hf]) | (refine Also.intro ?_ fun _ => ?_) | (refine Hold.intro fun _ => ?_) | (refine And.intro ?_ ?_))
      exact (by (try simp -dsimp only [hpush_hps, hps_app, List.cons_append, List.nil_append, hps_over]); refine ob_hle ?_; simp -dsimp [allK, ]; repeat' (first | (refine And.intro ?_ ?_) | (refine sLe.same ?_ ?_ <;> (simp; done)) | (refine sLe.clear ?_ ?_ <;> (first | (simp; done) | (simp; omega))) | (refine sLe.drop 1 ?_ ?_ ?_ <;> (simp; done))))
    have hps := hok.ps
    obtain ⟨ni, rfl, hni⟩ := withinB_nat (m := s.ps.length) (by omega) c1
    obtain ⟨p, hp, hp'⟩ := get_ex hni
    have hpts := ptsV_ne (n := s.ps.length) (by omega)
    have hptB := ptsB_ne (n := s.ps.length) (by omega)
    have hmx := mapIdx_get hp
    have hgp : s.ps.getD ni default = p := by simp [List.getD, hp]
    have hval : s.scrapOk ni = (p.a == -1 && p.b == -1) := by simp only [HG.scrapOk, c1, Int.toNat_natCast, hgp, Bool.true_and]
    have hw := fun h a b c e f d => w_part (s := s) (h := h) hp a b c e f d
    cases c3 : (p.a == -1 && p.b == -1)
    · have hf : s.scrapOk ni = false := by rw [hval, c3]
      simp -dsimp [Tryz.f50, E50, -lendN, -lend1]
      repeat' (first | omega | (simp -dsimp [E50, ri, cellp, ints, -lendN, -lend1, hk, g_hset, HI.v, hiE_dec', c1, c3, hf, hni, hp, hp', hpts, hptB, PS.blk, PS.row]) | (refine Also.intro ?_ fun _ => ?_) | (refine Hold.intro fun _ => ?_) | (refine And.intro ?_ ?_))
      exact (by (try simp -dsimp only [hpush_hps, hps_app, List.cons_append, List.nil_append, hps_over]); refine ob_hle ?_; simp -dsimp [allK, ]; repeat' (first | (refine And.intro ?_ ?_) | (refine sLe.same ?_ ?_ <;> (simp; done)) | (refine sLe.clear ?_ ?_ <;> (first | (simp; done) | (simp; omega))) | (refine sLe.drop 1 ?_ ?_ ?_ <;> (simp; done))))
    · have hf : s.scrapOk ni = true := by rw [hval, c3]
      simp -dsimp [Tryz.f50, E50, -lendN, -lend1]
      repeat' (first | omega | (simp -dsimp [E50, ri, cellp, ints, -lendN, -lend1, hk, g_hset, HI.v, hiE_dec', c1, c3, hf, hni, hp, hp', hpts, hptB, PS.blk, PS.row, hw, take_eq hp]) | (refine Also.intro ?_ fun _ => ?_) | (refine Hold.intro fun _ => ?_) | (refine And.intro ?_ ?_))
      all_goals exact (by (try simp -dsimp only [hpush_hps, hps_app, List.cons_append, List.nil_append, hps_over]); refine ob_hle ?_; simp -dsimp [allK, ]; repeat' (first | (refine And.intro ?_ ?_) | (refine sLe.same ?_ ?_ <;> (simp; done)) | (refine sLe.clear ?_ ?_ <;> (first | (simp; done) | (simp; omega))) | (refine sLe.drop 1 ?_ ?_ ?_ <;> (simp; done))))
  have h1 : s.doOk ⟨k, a, 0, 0⟩ = false := by simp [HG.doOk, k1, k2, k5, k3, k4, k6]
  have h2 : s.after ⟨k, a, 0, 0⟩ = s := by simp [HG.after, h1]
  rw [h1, h2]
  simp -dsimp [Tryz.f50, E50, k1, k2, k3, k4, k5, k6, -lendN, -lend1]
  repeat' (first | omega | (simp -dsimp [E50, ri, cellp, ints, -lendN, -lend1, hk, k1, k2, k3, k4, k5, k6, g_hset]) | (refine Also.intro ?_ fun _ => ?_) | (refine Hold.intro fun _ => ?_) | (refine And.intro ?_ ?_))
  all_goals exact (by (try simp -dsimp only [hpush_hps, hps_app, List.cons_append, List.nil_append, hps_over]); refine ob_hle ?_; simp -dsimp [allK, ]; repeat' (first | (refine And.intro ?_ ?_) | (refine sLe.same ?_ ?_ <;> (simp; done)) | (refine sLe.clear ?_ ?_ <;> (first | (simp; done) | (simp; omega))) | (refine sLe.drop 1 ?_ ?_ ?_ <;> (simp; done))))
theorem ok50 : FnOK Tryz.prog 50 (.heap doS) := heap_fn (E := E50) rfl (.cons ok87 (.cons ok88 (.cons ok89 (.cons ok30 (.cons ok90 (.cons ok31 .nil)))))) (ok := []) (fn := Tryz.f50) (by kernel_rfl) (by kernel_rfl) (by kernel_rfl) (by kernel_rfl) rfl (fun args h hc => by obtain ⟨_, _, _, rfl, _⟩ := obS_inv hgL_keys hc; simp) b50
end Go.Sx
end
section
/- Parts: what all works leave true of a hangar. No conditions. -/
set_option linter.unusedSimpArgs false
set_option linter.unusedSectionVars false
namespace Go.Sx

/-- What holds of a hangar behind n right works. -/
structure HG.Inv (s : HG) (r : Reg) (n : Nat) : Prop where
  rg : s.r = r
  val : r.valid = true
  psl : s.ps.length = r.parts.length
  pk : ∀ (k : Nat) (p : PS), s.ps[k]? = some p → p.kind = (r.parts.getD k default).kind ∧ p.known = (r.parts.getD k default).known ∧ p.since.length = r.orders.length ∧ p.chk.length = r.orders.length
  iss : s.iss.length = r.orders.length
  fl : (s.fl.length : Int) = r.machines
  wk : s.wk = n
  hil : s.hi.length = s.ps.length
  hi : ∀ (k i m : Nat), s.hi[k]? = some (some (i, m)) → ∃ l, s.hb[i]? = some l ∧ l.length = m ∧ 0 < m ∧ ∀ t ∈ l, 0 ≤ t.machine ∧ t.machine < r.machines
  inj : ∀ (k k' i m m' : Nat), s.hi[k]? = some (some (i, m)) → s.hi[k']? = some (some (i, m')) → k = k'
  cl : s.hcl = true → ∀ o ∈ s.hi, o = none
  hbl : s.hb.length ≤ n
  hbs : ∀ (i : Nat) (l : List Stt), s.hb[i]? = some l → l.length ≤ n
  pa : ∀ (k : Nat) (p : PS), s.ps[k]? = some p → (p.a = -1 ∧ p.b = -1) ∨ (p.a = -2 ∧ p.b = -2) ∨ (0 ≤ p.a ∧ p.a < r.machines ∧ 0 ≤ p.b ∧ p.b < (r.kinds.getD p.kind.toNat default).places ∧ ∃ i m, s.hi[k]? = some (some (i, m)))

theorem valid_facts {r : Reg} (h : r.valid = true) : r.kinds.length ≤ 6 ∧ r.parts.length ≤ 24 ∧ r.orders.length ≤ 6 ∧ 0 ≤ r.machines ∧ r.machines ≤ 4 ∧
    (∀ kd ∈ r.kinds, 1 ≤ kd.hours ∧ kd.hours ≤ 100000 ∧ 1 ≤ kd.cycles ∧ kd.cycles ≤ 100000 ∧ 0 ≤ kd.places ∧ kd.places ≤ 4) ∧
    (∀ p ∈ r.parts, 0 ≤ p.kind ∧ p.kind < r.kinds.length ∧ 0 ≤ p.hours ∧ p.hours ≤ 100000 ∧ 0 ≤ p.cycles ∧ p.cycles ≤ 100000) ∧
    (∀ o ∈ r.orders, 0 ≤ o.kind ∧ o.kind < r.kinds.length ∧ 0 ≤ o.within ∧ o.within ≤ 100000) := by
  simp only [Reg.valid, Bool.and_eq_true, decide_eq_true_eq, Bool.not_eq_true', List.any_eq_false] at h
  obtain ⟨h1, h2, h3, h4, h5, h6, h7⟩ := h
  have h4' : 0 ≤ r.machines ∧ r.machines ≤ 4 := by simpa [withinB] using h4
  have hkk : ∀ n, r.kindOk n = true → 0 ≤ n ∧ n < r.kinds.length := by
    intro n hn
    have hw : wsub (r.kinds.length : Int) 1 = r.kinds.length - 1 := wrap_id (by omega) (by omega)
    simp only [Reg.kindOk, hw, withinB, decide_eq_true_eq] at hn
    omega
  refine ⟨h1, h2, h3, h4'.1, h4'.2, fun kd hk => ?_, fun p hp => ?_, fun o ho => ?_⟩
  · have := h5 kd hk
    simp [Kd.bad, withinB] at this
    omega
  · have := h6 p hp
    simp only [Reg.badP, Bool.or_eq_true, Bool.not_eq_true', not_or, Bool.not_eq_false] at this
    obtain ⟨⟨a1, a2⟩, a3⟩ := this
    have := hkk _ a1
    simp [withinB] at a2 a3
    omega
  · have := h7 o ho
    simp only [Reg.badO, Bool.or_eq_true, Bool.not_eq_true', not_or, Bool.not_eq_false] at this
    obtain ⟨a1, a2⟩ := this
    have := hkk _ a1
    simp [withinB] at a2
    omega

theorem getD_mem {α : Type} [Inhabited α] {l : List α} {k : Nat} (h : k < l.length) : l.getD k default ∈ l := by
  have : l.getD k default = l[k] := by simp [List.getD, h]
  rw [this]; exact List.getElem_mem h

theorem HG.Inv.ok {s : HG} {r : Reg} {n : Nat} (h : s.Inv r n) (hn : n ≤ 1000000) : s.Ok := by
  obtain ⟨v1, v2, v3, v4, v5, v6, v7, v8⟩ := valid_facts h.val
  have e := h.rg
  refine ⟨⟨fun o ho i m ho' => ?_, h.cl⟩, by rw [h.psl]; omega, by rw [e]; omega, by rw [e]; omega, fun kd hk => ?_, fun p hp => ?_, h.hil, by rw [e]; exact v4, by rw [e]; omega, by rw [e]; exact h.iss, by rw [e]; exact h.fl, fun i l hl => ⟨?_, ?_⟩, fun k p hp ha => ?_⟩
  · subst ho'
    obtain ⟨k, hk⟩ := List.mem_iff_getElem?.1 ho
    obtain ⟨l, h1, h2, _⟩ := h.hi k i m hk
    exact ⟨l, h1, h2⟩
  · rw [e] at hk; have := v6 kd hk; omega
  · obtain ⟨k, hk⟩ := List.mem_iff_getElem?.1 hp
    obtain ⟨p1, p2, p3, p4⟩ := h.pk k p hk
    have hkl : k < r.parts.length := by rw [← h.psl]; exact (List.getElem?_eq_some_iff.1 hk).1
    have := v7 _ (getD_mem hkl)
    exact ⟨by rw [p1]; omega, by show p.kind < (s.r.kinds.length : Int); rw [e, p1]; omega, by show s.iss.length = s.r.orders.length; rw [e]; exact h.iss, by show _ = s.r.orders.length; rw [e]; exact p4, by show _ = s.r.orders.length; rw [e]; exact p3, by show s.r.orders.length ≤ _; rw [e]; omega⟩
  · have := h.hbs i l hl; omega
  · have := h.hbl; omega
  · rcases h.pa k p hp with h1 | h1 | ⟨h1, h2, _, _, i, m, h5⟩
    · omega
    · omega
    · refine ⟨by rw [e]; exact h2, ?_⟩
      obtain ⟨l, l1, l2, l3, l4⟩ := h.hi k i m h5
      have hlt : l.length - 1 < l.length := by omega
      have hm := l4 _ (getD_mem hlt)
      exact ⟨i, l, by rw [l2]; exact h5, l1, by omega, by have := h.hbs i l l1; omega, hm.1, by rw [h.fl]; exact hm.2⟩

theorem HG.Inv.new {r : Reg} (h : r.valid = true) : (HG.new r).Inv r 0 := by
  obtain ⟨v1, v2, v3, v4, v5, v6, v7, v8⟩ := valid_facts h
  have hn : ∀ (k i m : Nat), (HG.new r).hi[k]? = some (some (i, m)) → False := by
    intro k i m hk
    have : (List.replicate r.parts.length (none : Option (Nat × Nat)))[k]? = some (some (i, m)) := hk
    rw [List.getElem?_replicate] at this
    split at this <;> simp at this
  refine ⟨rfl, h, by simp [HG.new], fun k p hp => ?_, by simp [HG.new], by simp [HG.new]; omega, rfl, by simp [HG.new], fun k i m hk => (hn k i m hk).elim, fun k _ i m _ hk _ => (hn k i m hk).elim, fun _ o ho => (List.mem_replicate.1 ho).2, Nat.le_refl _, fun i l hl => by simp [HG.new] at hl, fun k p hp => ?_⟩
  · have hp' : (r.parts.map (PS.new r))[k]? = some p := hp
    rw [List.getElem?_map] at hp'
    cases hq : r.parts[k]? with
    | none => rw [hq] at hp'; simp at hp'
    | some q =>
      rw [hq] at hp'
      simp only [Option.map_some, Option.some.injEq] at hp'
      subst hp'
      simp [PS.new, List.getD, hq]
  · have hp' : (r.parts.map (PS.new r))[k]? = some p := hp
    rw [List.getElem?_map] at hp'
    cases hq : r.parts[k]? with
    | none => rw [hq] at hp'; simp at hp'
    | some q =>
      rw [hq] at hp'
      simp only [Option.map_some, Option.some.injEq] at hp'
      subst hp'
      exact .inl ⟨rfl, rfl⟩
end Go.Sx
end
section
/- Parts: a right work leaves true what holds of a hangar. No conditions. -/
set_option linter.unusedSimpArgs false
set_option linter.unusedSectionVars false
namespace Go.Sx

/-- A hangar behind a work. -/
def HG.step (s : HG) (w : Wk) : HG := { s.after w with wk := wadd s.wk 1 }
structure PS.Sim (p p' : PS) : Prop where
  kind : p'.kind = p.kind
  known : p'.known = p.known
  since : p'.since.length = p.since.length
  chk : p'.chk.length = p.chk.length
theorem PS.Sim.refl (p : PS) : p.Sim p := ⟨rfl, rfl, rfl, rfl⟩

theorem HG.Inv.upd {s s' : HG} {r : Reg} {n : Nat} (h : s.Inv r n) (e1 : s'.r = s.r) (e2 : s'.ps.length = s.ps.length)
    (e3 : ∀ (k : Nat) (p' : PS), s'.ps[k]? = some p' → ∃ p, s.ps[k]? = some p ∧ p.Sim p' ∧ ((p'.a = p.a ∧ p'.b = p.b) ∨ (p'.a = -1 ∧ p'.b = -1) ∨ (p'.a = -2 ∧ p'.b = -2)))
    (e4 : s'.iss.length = s.iss.length) (e5 : s'.fl.length = s.fl.length) (e6 : s'.wk = s.wk + 1) (e7 : s'.hi = s.hi) (e8 : s'.hb.length = s.hb.length)
    (e9 : ∀ (i : Nat) (l : List Stt), s.hb[i]? = some l → ∃ l', s'.hb[i]? = some l' ∧ l'.length = l.length ∧ ∀ t' ∈ l', ∃ t ∈ l, t'.machine = t.machine)
    (e10 : s'.hcl = true → s.hcl = true) : s'.Inv r (n + 1) := by
  refine ⟨by rw [e1]; exact h.rg, h.val, by rw [e2]; exact h.psl, fun k p' hp' => ?_, by rw [e4]; exact h.iss, by rw [e5]; exact h.fl, by rw [e6, h.wk]; rfl, by rw [e7, e2]; exact h.hil, fun k i m hk => ?_, fun k k' i m m' hk hk' => ?_, fun hc => by rw [e7]; exact h.cl (e10 hc), by rw [e8]; have := h.hbl; omega, fun i l' hl' => ?_, fun k p' hp' => ?_⟩
  · obtain ⟨p, hp, hs, _⟩ := e3 k p' hp'
    obtain ⟨p1, p2, p3, p4⟩ := h.pk k p hp
    exact ⟨by rw [hs.kind, p1], by rw [hs.known, p2], by rw [hs.since, p3], by rw [hs.chk, p4]⟩
  · rw [e7] at hk
    obtain ⟨l, l1, l2, l3, l4⟩ := h.hi k i m hk
    obtain ⟨l', m1, m2, m3⟩ := e9 i l l1
    refine ⟨l', m1, by omega, l3, fun t' ht' => ?_⟩
    obtain ⟨t, ht, et⟩ := m3 t' ht'
    rw [et]; exact l4 t ht
  · rw [e7] at hk hk'; exact h.inj k k' i m m' hk hk'
  · have : i < s.hb.length := by rw [← e8]; exact (List.getElem?_eq_some_iff.1 hl').1
    obtain ⟨l2, m1, m2, m3⟩ := e9 i _ (List.getElem?_eq_getElem this)
    rw [hl'] at m1
    cases m1
    have := h.hbs i _ (List.getElem?_eq_getElem this)
    omega
  · obtain ⟨p, hp, hs, ha⟩ := e3 k p' hp'
    rcases ha with ⟨a1, a2⟩ | ha | ha
    · rw [a1, a2, hs.kind, e7]; exact h.pa k p hp
    · exact .inl ha
    · exact .inr (.inl ha)

theorem wadd_wk {n : Nat} (hn : n ≤ 1000000) : wadd (n : Int) 1 = n + 1 := wrap_id (by omega) (by omega)
theorem endL_len (fl : List (Int × Int)) (to : Int) (l : List Stt) : (endL fl to l).length = l.length := by simp [endL]
theorem endL_machine {fl : List (Int × Int)} {to : Int} {l : List Stt} : ∀ t' ∈ endL fl to l, ∃ t ∈ l, t'.machine = t.machine := by
  intro t' ht'
  rcases List.mem_or_eq_of_mem_set ht' with h | h
  · exact ⟨t', h, rfl⟩
  · by_cases hl : l.length - 1 < l.length
    · exact ⟨_, getD_mem hl, by rw [h]; rfl⟩
    · have : l = [] := List.length_eq_zero_iff.1 (by omega)
      subst this
      simp [endL] at ht'
theorem getElem?_set_cases {α : Type} {l : List α} {i k : Nat} {x y : α} (h : (l.set i x)[k]? = some y) : (k = i ∧ y = x ∧ i < l.length) ∨ (k ≠ i ∧ l[k]? = some y) := by
  rw [List.getElem?_set] at h
  by_cases e : i = k
  · subst e
    rw [if_pos rfl] at h
    by_cases hl : i < l.length
    · rw [if_pos hl] at h; cases h; exact .inl ⟨rfl, rfl, hl⟩
    · rw [if_neg hl] at h; cases h
  · rw [if_neg e] at h; exact .inr ⟨fun h => e h.symm, h⟩
/-- Only the parts change. -/
theorem HG.Inv.upd0 {s s' : HG} {r : Reg} {n : Nat} (h : s.Inv r n) (e1 : s'.r = s.r) (e2 : s'.ps.length = s.ps.length)
    (e3 : ∀ (k : Nat) (p' : PS), s'.ps[k]? = some p' → ∃ p, s.ps[k]? = some p ∧ p.Sim p' ∧ ((p'.a = p.a ∧ p'.b = p.b) ∨ (p'.a = -1 ∧ p'.b = -1) ∨ (p'.a = -2 ∧ p'.b = -2)))
    (e4 : s'.iss.length = s.iss.length) (e5 : s'.fl.length = s.fl.length) (e6 : s'.wk = s.wk + 1) (e7 : s'.hi = s.hi) (e8 : s'.hb = s.hb) (e10 : s'.hcl = s.hcl) : s'.Inv r (n + 1) :=
  h.upd e1 e2 e3 e4 e5 e6 e7 (by rw [e8]) (fun i l hl => ⟨l, by rw [e8]; exact hl, rfl, fun t ht => ⟨t, ht, rfl⟩⟩) (fun hc => by rw [← e10]; exact hc)

theorem sim_set {l : List PS} {n : Nat} {q : PS} (hq : ∀ p, l[n]? = some p → p.Sim q ∧ ((q.a = p.a ∧ q.b = p.b) ∨ (q.a = -1 ∧ q.b = -1) ∨ (q.a = -2 ∧ q.b = -2))) :
    ∀ (k : Nat) (p' : PS), (l.set n q)[k]? = some p' → ∃ p, l[k]? = some p ∧ p.Sim p' ∧ ((p'.a = p.a ∧ p'.b = p.b) ∨ (p'.a = -1 ∧ p'.b = -1) ∨ (p'.a = -2 ∧ p'.b = -2)) := by
  intro k p' h
  rcases getElem?_set_cases h with ⟨rfl, rfl, hl⟩ | ⟨_, h⟩
  · have e : l[k]? = some l[k] := List.getElem?_eq_getElem hl
    exact ⟨l[k], e, hq _ e⟩
  · exact ⟨p', h, PS.Sim.refl _, .inl ⟨rfl, rfl⟩⟩

theorem HG.Inv.step {s : HG} {r : Reg} {n : Nat} (h : s.Inv r n) (hn : n ≤ 1000000) {w : Wk} (hw : s.doOk w = true) : (s.step w).Inv r (n + 1) := by
  have hwk : wadd s.wk 1 = s.wk + 1 := by rw [h.wk]; exact wadd_wk hn
  have hst : s.step w = { s.doDo w with wk := s.wk + 1 } := by simp only [HG.step, HG.after, hw, if_true, hwk]
  rw [hst]
  clear hst hwk
  obtain ⟨v1, v2, v3, v4, v5, v6, v7, v8⟩ := valid_facts h.val
  have hpart : ∀ m : Int, s.i.part m = true → ∃ k : Nat, m = k ∧ k < s.ps.length := fun m hm => withinB_nat (by rw [h.psl]; omega) hm
  by_cases k1 : w.kind = 1
  · simp only [HG.doDo, k1, if_true]
    refine h.upd0 rfl (by simp [HG.flyDo]) (fun k p' hp' => ?_) rfl (by simp [HG.flyDo]) rfl rfl rfl rfl
    have hp2 : (s.ps.map (flyP s.iss w.a w.b w.c))[k]? = some p' := hp'
    rw [List.getElem?_map] at hp2
    cases hq : s.ps[k]? with
    | none => rw [hq] at hp2; simp at hp2
    | some q =>
      rw [hq] at hp2
      simp only [Option.map_some, Option.some.injEq] at hp2
      subst hp2
      refine ⟨q, rfl, ?_, ?_⟩
      · unfold flyP; split
        · exact ⟨rfl, rfl, sinceTo_len _ _ _ _, rfl⟩
        · exact PS.Sim.refl _
      · unfold flyP; split <;> exact .inl ⟨rfl, rfl⟩
  by_cases k2 : w.kind = 2
  · have hf : s.fitOk w.a w.b w.c = true := by simpa [HG.doOk, k2] using hw
    simp only [HG.doDo, k2, Int.reduceEq, if_false, if_true]
    simp only [HG.fitOk, Bool.and_eq_true, beq_iff_eq, decide_eq_true_eq] at hf
    obtain ⟨f1, f2, f3, f4, f5, f6⟩ := hf
    obtain ⟨k, hk, hkl⟩ := hpart _ f1
    have hmm : ∃ m : Nat, w.b = m ∧ m < s.fl.length := withinB_nat (by have := h.fl; omega) (by
      have : s.i.machine w.b = withinB w.b 0 (wsub r.machines 1) := by show withinB w.b 0 (wsub s.r.machines 1) = _; rw [h.rg]
      rw [h.fl, ← this]; exact f2)
    obtain ⟨m, hm, hml⟩ := hmm
    have hml' : (m : Int) < r.machines := by rw [← h.fl]; omega
    obtain ⟨p, hp, hp'⟩ := get_ex hkl
    rw [hk] at f3 f4 f5 f6 ⊢
    simp only [Int.toNat_natCast, List.getD, hp, Option.getD_some] at f3 f4 f5 f6
    have hpl : 0 ≤ w.c ∧ w.c < (r.kinds.getD p.kind.toNat default).places := by
      have hkm : p.kind.toNat < r.kinds.length := by
        obtain ⟨p1, _⟩ := h.pk k p hp
        have := v7 _ (getD_mem (l := r.parts) (k := k) (by rw [← h.psl]; exact hkl))
        rw [p1]; omega
      have hb := v6 _ (getD_mem hkm)
      have e : (s.r.kinds[p.kind.toNat]?.getD default) = r.kinds.getD p.kind.toNat default := by rw [h.rg]; rfl
      rw [e] at f5
      have hw : wsub (r.kinds.getD p.kind.toNat default).places 1 = (r.kinds.getD p.kind.toNat default).places - 1 := wrap_id (by omega) (by omega)
      rw [hw] at f5
      simp only [withinB, decide_eq_true_eq] at f5
      omega
    have hdp : ∀ (p' : PS) (j : Nat), (s.ps.set k { p with a := w.b, b := w.c })[j]? = some p' → (j = k ∧ p' = { p with a := w.b, b := w.c }) ∨ (j ≠ k ∧ s.ps[j]? = some p') := by
      intro p' j hj
      rcases getElem?_set_cases hj with ⟨e1, e2, _⟩ | e
      · exact .inl ⟨e1, e2⟩
      · exact .inr e
    have hgp : s.ps.getD (k : Int).toNat default = p := by simp [List.getD, hp]
    have hstm : (s.stt w.b w.c).machine = w.b := rfl
    have hnh : k < s.hi.length := by rw [h.hil]; exact hkl
    obtain ⟨o, ho, ho'⟩ := get_ex hnh
    have hgo : s.hi.getD (k : Int).toNat none = o := by simp [List.getD, ho]
    unfold HG.fitDo
    rw [hgo, hgp]
    cases o with
    | none =>
      simp only [Int.toNat_natCast]
      refine ⟨h.rg, h.val, by simp [h.psl], fun j p' hj => ?_, h.iss, h.fl, by simp [h.wk], by simp [h.hil], fun j i mm hj => ?_, fun j j' i mm mm' hj hj' => ?_, fun hc => by simp at hc, by have := h.hbl; simp; omega, fun i l hl => ?_, fun j p' hj => ?_⟩
      · rcases hdp p' j hj with ⟨rfl, rfl⟩ | ⟨_, hj⟩
        · exact h.pk j p hp
        · exact h.pk j p' hj
      · rcases getElem?_set_cases hj with ⟨_, e, _⟩ | ⟨_, e⟩
        · cases e
          refine ⟨[s.stt w.b w.c], by simp, rfl, by omega, fun t ht => ?_⟩
          simp only [List.mem_singleton] at ht
          subst ht
          rw [hstm, hm]; omega
        · obtain ⟨l, l1, l2⟩ := h.hi j i mm e
          exact ⟨l, by rw [List.getElem?_append_left (List.getElem?_eq_some_iff.1 l1).1]; exact l1, l2⟩
      · have hlt : ∀ j i mm, s.hi[j]? = some (some (i, mm)) → i < s.hb.length := fun j i mm e => by
          obtain ⟨l, l1, _⟩ := h.hi j i mm e; exact (List.getElem?_eq_some_iff.1 l1).1
        rcases getElem?_set_cases hj with ⟨e0, e, _⟩ | ⟨_, e⟩ <;> rcases getElem?_set_cases hj' with ⟨e0', e', _⟩ | ⟨_, e'⟩
        · omega
        · cases e; have := hlt _ _ _ e'; omega
        · cases e'; have := hlt _ _ _ e; omega
        · exact h.inj j j' i mm mm' e e'
      · by_cases hi : i < s.hb.length
        · simp only [List.getElem?_append_left hi] at hl
          have := h.hbs i l hl; omega
        · rw [List.getElem?_append_right (by omega)] at hl
          have : l = [s.stt w.b w.c] := by
            cases hd : i - s.hb.length with
            | zero => rw [hd] at hl; simpa using hl.symm
            | succ x => rw [hd] at hl; simp at hl
          subst this; simp
      · rcases hdp p' j hj with ⟨rfl, rfl⟩ | ⟨hne, hj⟩
        · exact .inr (.inr ⟨by simp only [hm]; omega, by simp only [hm]; exact hml', hpl.1, hpl.2, s.hb.length, 1, by simp [hnh]⟩)
        · rcases h.pa j p' hj with h1 | h1 | ⟨h1, h2, h3, h4, i, mm, h5⟩
          · exact .inl h1
          · exact .inr (.inl h1)
          · exact .inr (.inr ⟨h1, h2, h3, h4, i, mm, by rw [List.getElem?_set_ne (Ne.symm hne)]; exact h5⟩)
    | some x =>
      obtain ⟨i0, m0⟩ := x
      simp only [Int.toNat_natCast]
      obtain ⟨l0, y1, y2, y3, y4⟩ := h.hi k i0 m0 ho
      have hgb : s.hb.getD i0 [] = l0 := by simp [List.getD, y1]
      have hi0 : i0 < s.hb.length := (List.getElem?_eq_some_iff.1 y1).1
      rw [hgb]
      have hl0 := h.hbs i0 l0 y1
      refine ⟨h.rg, h.val, by simp [h.psl], fun j p' hj => ?_, h.iss, h.fl, by simp [h.wk], by simp [h.hil], fun j i mm hj => ?_, fun j j' i mm mm' hj hj' => ?_, fun hc => by simp at hc, by have := h.hbl; simp; omega, fun i l hl => ?_, fun j p' hj => ?_⟩
      · rcases hdp p' j hj with ⟨rfl, rfl⟩ | ⟨_, hj⟩
        · exact h.pk j p hp
        · exact h.pk j p' hj
      · rcases getElem?_set_cases hj with ⟨_, e, _⟩ | ⟨hne, e⟩
        · cases e
          refine ⟨l0 ++ [s.stt w.b w.c], by simp [hi0], by simp [y2], by omega, fun t ht => ?_⟩
          rcases List.mem_append.1 ht with ht | ht
          · exact y4 t ht
          · simp only [List.mem_singleton] at ht
            subst ht
            rw [hstm, hm]; omega
        · obtain ⟨l, l1, l2⟩ := h.hi j i mm e
          have hii : i0 ≠ i := by
            rintro rfl
            exact hne (h.inj j k i0 mm m0 e ho)
          exact ⟨l, by simp only [List.getElem?_set_ne hii]; exact l1, l2⟩
      · rcases getElem?_set_cases hj with ⟨e0, e, _⟩ | ⟨hne, e⟩ <;> rcases getElem?_set_cases hj' with ⟨e0', e', _⟩ | ⟨hne', e'⟩
        · omega
        · cases e; exact absurd (h.inj j' k _ _ _ e' ho) hne'
        · cases e'; exact absurd (h.inj j k _ _ _ e ho) hne
        · exact h.inj j j' i mm mm' e e'
      · rcases getElem?_set_cases hl with ⟨_, e, _⟩ | ⟨_, e⟩
        · subst e; simp; omega
        · have := h.hbs i l e; omega
      · rcases hdp p' j hj with ⟨rfl, rfl⟩ | ⟨hne, hj⟩
        · exact .inr (.inr ⟨by simp only [hm]; omega, by simp only [hm]; exact hml', hpl.1, hpl.2, i0, m0 + 1, by simp [hnh]⟩)
        · rcases h.pa j p' hj with h1 | h1 | ⟨h1, h2, h3, h4, i, mm, h5⟩
          · exact .inl h1
          · exact .inr (.inl h1)
          · exact .inr (.inr ⟨h1, h2, h3, h4, i, mm, by rw [List.getElem?_set_ne (Ne.symm hne)]; exact h5⟩)
  by_cases k5 : w.kind = 5
  · have hf : s.chkOk w.a w.b = true := by
      have := hw; simp only [HG.doOk, k5, Int.reduceEq, if_false, if_true, Bool.and_eq_true] at this; exact this.2
    simp only [HG.doDo, k5, Int.reduceEq, if_false, if_true]
    simp only [HG.chkOk, Bool.and_eq_true] at hf
    obtain ⟨k, hk, hkl⟩ := hpart _ hf.1
    rw [hk]
    refine h.upd0 rfl (by simp [HG.chkDo]) (sim_set fun p hp => ?_) rfl rfl rfl rfl rfl rfl
    have hg : s.ps.getD (k : Int).toNat default = p := by simpa [List.getD] using congrArg (Option.getD · default) hp
    rw [hg]
    exact ⟨⟨rfl, rfl, rfl, by simp⟩, .inl ⟨rfl, rfl⟩⟩
  by_cases k3 : w.kind = 3
  · have hf : s.takeOk w.a = true := by
      have := hw; simp only [HG.doOk, k3, Int.reduceEq, if_false, if_true, Bool.and_eq_true] at this; exact this.2
    simp only [HG.doDo, k3, Int.reduceEq, if_false, if_true]
    refine h.upd rfl (by simp [HG.takeDo, HG.put, HG.endd]) (sim_set fun p hp => ?_) rfl rfl rfl rfl (by simp [HG.takeDo, HG.put, HG.endd]) (fun i l hl => ?_) (fun hc => hc)
    · have hg : s.ps.getD w.a.toNat default = p := by simpa [List.getD] using congrArg (Option.getD · default) hp
      rw [hg]
      exact ⟨⟨rfl, rfl, rfl, rfl⟩, .inr (.inl ⟨rfl, rfl⟩)⟩
    · show ∃ l', (s.hb.set (s.hist w.a) (endL s.fl s.wk (s.hb.getD (s.hist w.a) [])))[i]? = some l' ∧ _
      by_cases e : s.hist w.a = i
      · subst e
        have hlt := (List.getElem?_eq_some_iff.1 hl).1
        have hg : s.hb.getD (s.hist w.a) [] = l := by simp [List.getD, hl]
        exact ⟨endL s.fl s.wk l, by rw [hg]; simp [hlt], endL_len _ _ _, endL_machine⟩
      · exact ⟨l, by rw [List.getElem?_set_ne e]; exact hl, rfl, fun t ht => ⟨t, ht, rfl⟩⟩
  by_cases k4 : w.kind = 4
  · simp only [HG.doDo, k4, Int.reduceEq, if_false, if_true]
    exact h.upd0 rfl rfl (fun k p' hp' => ⟨p', hp', PS.Sim.refl _, .inl ⟨rfl, rfl⟩⟩) (by simp [HG.issueDo]) rfl rfl rfl rfl rfl
  by_cases k6 : w.kind = 6
  · simp only [HG.doDo, k6, Int.reduceEq, if_false, if_true]
    refine h.upd0 rfl (by simp [HG.put]) (sim_set fun p hp => ?_) rfl rfl rfl rfl rfl rfl
    have hg : s.ps.getD w.a.toNat default = p := by simpa [List.getD] using congrArg (Option.getD · default) hp
    rw [hg]
    exact ⟨⟨rfl, rfl, rfl, rfl⟩, .inr (.inr ⟨rfl, rfl⟩)⟩
  · simp [HG.doOk, k1, k2, k5, k3, k4, k6] at hw
end Go.Sx
end
section
/- Parts: a hangar behind all works. No conditions. -/
set_option linter.unusedSimpArgs false
set_option linter.unusedSectionVars false
set_option maxRecDepth 100000
set_option maxHeartbeats 2000000
namespace Go.Sx
open Go.Proofs
attribute [local irreducible] HLe
attribute [local simp] hps_app

theorem after_wk (s : HG) (w : Wk) : (s.after w).wk = s.wk := by
  unfold HG.after; split
  · unfold HG.doDo; repeat' split
    all_goals first | rfl | (unfold HG.fitDo; split <;> rfl)
  · rfl
/-- The hangar behind the first k works. -/
def stT (r : Reg) (l : List Wk) : Nat → HG
  | 0 => HG.new r
  | k + 1 => (stT r l k).step (l.getD k default)
def okAt (r : Reg) (l : List Wk) (k : Nat) : Bool := (stT r l k).doOk (l.getD k default)
theorem stT_inv {r : Reg} {l : List Wk} (hv : r.valid = true) : ∀ k : Nat, k ≤ 1000000 → (∀ j, j < k → okAt r l j = true) → (stT r l k).Inv r k
  | 0, _, _ => HG.Inv.new hv
  | k + 1, hk, h => (stT_inv hv k (by omega) fun j hj => h j (by omega)).step (by omega) (h k (by omega))
/-- The first work that is not possible; -1: none. -/
def badAt (r : Reg) (l : List Wk) : Int := idxZ (List.range l.length) fun j => !okAt r l j
theorem badAt_at {r : Reg} {l : List Wk} {k : Nat} (hk : k < l.length) (h : okAt r l k = false) (hall : ∀ j, j < k → okAt r l j = true) : badAt r l = k :=
  idxZ_at _ _ (by simpa using hk) (by simpa using h) fun j _ hj => by simpa using hall j hj
theorem badAt_none {r : Reg} {l : List Wk} (hall : ∀ j, j < l.length → okAt r l j = true) : badAt r l = -1 :=
  idxZ_none _ _ fun j hj => by simpa using hall j (by simpa using hj)
def opE (r : Reg) (l : List Wk) : Int := if r.valid = true then (if l.length ≤ 200 then (if badAt r l < 0 then 0 else 91) else 2) else 90
def opA (r : Reg) (l : List Wk) : Int := if r.valid = true then (if l.length ≤ 200 then (if badAt r l < 0 then 0 else badAt r l) else 0) else 0
def opH (r : Reg) (l : List Wk) : HG := stT r l l.length
structure RL where
  r : Reg
  l : List Wk
  deriving Inhabited
@[simp] def rlE (d : RL) : List V := [.agg d.r.row, .sl 4 (d.l.map Wk.row)]
theorem rlE_inj (a b : RL) (h : rlE a = rlE b) : a = b := by
  obtain ⟨r, l⟩ := a; obtain ⟨r', l'⟩ := b
  simp only [rlE, List.cons.injEq, V.agg.injEq, V.sl.injEq, true_and, and_true] at h
  rw [Reg.row_inj _ _ h.1, map_inj Wk.row_inj h.2]
theorem rlE_dec (r : Reg) (l : List Wk) : decC rlE [.agg r.row, .sl 4 (l.map Wk.row)] = ⟨r, l⟩ := decC_eq rlE_inj ⟨r, l⟩
theorem rlE_dec' (r : Reg) (l : List Wk) : decC rlE [.agg [.sl 3 (r.kinds.map Kd.row), .sl 4 (r.parts.map Pt.row), .int .i64 r.machines, .sl 2 (r.orders.map Od.row)], .sl 4 (l.map Wk.row)] = ⟨r, l⟩ := rlE_dec r l
def RL.Fine (d : RL) : Prop := d.r.kinds.length ≤ 9223372036854775807 ∧ d.r.parts.length ≤ 9223372036854775807 ∧ d.r.orders.length ≤ 9223372036854775807 ∧ d.l.length ≤ 9223372036854775807
noncomputable abbrev openS : PSpec := mkP rlE RL.Fine fun d => .tup [if opE d.r d.l = 0 then (opH d.r d.l).i.v else .nilp, .int .i64 (opA d.r d.l), .int .i64 (opE d.r d.l)]
theorem do_go' (s : HG) (w : Wk) (h : Hp) : doS.go [.bptr 4919 0 1 0 0, .agg [.int .i64 w.kind, .int .i64 w.a, .int .i64 w.b, .int .i64 w.c]] (Ob hgL s h) = ⟨s.Ok ∧ Blank doOwn (Ob hgL s h), .bool (s.doOk w), Ob hgL (s.after w) (bmp doOwn 1 (Ob hgL s h))⟩ := do_go s w h
theorem regE_dec' (r : Reg) : decC regE [.agg [.sl 3 (r.kinds.map Kd.row), .sl 4 (r.parts.map Pt.row), .int .i64 r.machines, .sl 2 (r.orders.map Od.row)]] = r := regE_dec r
theorem new_go' (r : Reg) (h : Hp) : newS.go [.agg [.sl 3 (r.kinds.map Kd.row), .sl 4 (r.parts.map Pt.row), .int .i64 r.machines, .sl 2 (r.orders.map Od.row)]] h = ⟨r.Small ∧ Fresh h ∧ Blank newOwn h, .bptr 4919 0 1 0 0, Ob hgL (HG.new r) (bmp newOwn 1000000 h)⟩ := new_go r h
@[simp] theorem lend1_nilp (h : Hp) : lend1 h .nilp = (True, .nilp) := rfl
theorem small_of {r : Reg} (h : r.valid = true) : r.Small := by
  obtain ⟨v1, v2, v3, v4, v5, _⟩ := valid_facts h
  exact ⟨by omega, by omega, by omega, by omega, by omega⟩
noncomputable abbrev E18 : Env := { P := Tryz.prog, fn := tbl [(48, .pure validS), (49, .heap newS), (50, .heap doS)], own := [], key := 1800, nt := 38 }
theorem b18 : PureBody E18 [] Tryz.f18 openS := by
  refine pb ?_
  rintro ⟨r, l⟩ ⟨b1, b2, b3, b4⟩
  simp only at b1 b2 b3 b4
  cases c1 : r.valid
  · have hE : opE r l = 90 := by simp [opE, c1]
    have hA : opA r l = 0 := by simp [opA, c1]
    simp -dsimp [Tryz.f18, E18, Reg.row, -lendN, -lend1]
    repeat' (first | omega | (simp -dsimp [E18, ri, cellp, ints, -lendN, -lend1, b1, b2, b3, regE_dec', Reg.row, c1, hE, hA]) | (refine Also.intro ?_ fun _ => ?_) | (refine Hold.intro fun _ => ?_) | (refine And.intro ?_ ?_))
  by_cases c2 : l.length ≤ 200
  case neg =>
    have hE : opE r l = 2 := by simp [opE, c1, c2]
    have hA : opA r l = 0 := by simp [opA, c1, c2]
    have c2' : (200 : Int) < l.length := by omega
    simp -dsimp [Tryz.f18, E18, Reg.row, -lendN, -lend1]
    repeat' (first | omega | (simp -dsimp [E18, ri, cellp, ints, -lendN, -lend1, b1, b2, b3, regE_dec', Reg.row, c1, c2', hE, hA]) | (refine Also.intro ?_ fun _ => ?_) | (refine Hold.intro fun _ => ?_) | (refine And.intro ?_ ?_))
  have c2' : ¬ (200 : Int) < l.length := by omega
  have hFr : ∀ S : Site, Fresh (hps [(1802, S)] noH) := by
    intro S k hk; simp only [hkeys, List.mem_cons, List.not_mem_nil, or_false] at hk
    rcases hk with rfl | rfl | rfl | rfl | rfl | rfl | rfl | rfl | rfl <;> simp
  have hBl : ∀ S : Site, Blank newOwn (hps [(1802, S)] noH) := by
    intro S k hk; simp only [newOwn, List.mem_cons, List.not_mem_nil, or_false] at hk
    rcases hk with rfl | rfl | rfl <;> simp
  have hsm := small_of c1
  simp -dsimp [Tryz.f18, E18, Reg.row, -lendN, -lend1]
  repeat' (first | omega | (simp -dsimp [E18, ri, cellp, ints, -lendN, -lend1, b1, b2, b3, regE_dec', Reg.row, c1, c2', new_go', hsm, hFr, hBl, bmp]) | (refine Also.intro ?_ fun _ => ?_) | (refine Hold.intro fun _ => ?_) | (refine And.intro ?_ ?_))
  refine awp_loop [20, 21, 22, 23, 8, 7, 24, 25, 26, 27, 28, 4, 5, 6, 29, 30, 31, 32, 33, 34, 35, 36, 19] (fun k : { k : Nat // k ≤ l.length ∧ ∀ j, j < k → okAt r l j = true } => [(4, (true, .bptr 4919 0 1 0 0)), (5, (true, .int .i64 0)), (6, (true, .int .i64 0)), (19, (true, .int .i64 (k.1 : Nat)))])
    (fun k => Ob hgL (stT r l k.1) (hps [(1808, { base := k.1, blks := [] }), (5003, { base := k.1, blks := [] }), (8810, { base := k.1, blks := [] }), (1802, { base := 1, blks := [] }), (4901, { base := 1000000, blks := [] }), (4905, { base := 1000000, blks := [] }), (4944, { base := 1000000, blks := [] })] noH)) (fun k => l.length - k.1) ⟨0, by omega, fun j hj => by omega⟩ ?_ ?_ ?_
  · simp [okAll, okv]
  · exact (by (try simp -dsimp only [hpush_hps, hps_app, List.cons_append, List.nil_append, hps_over]); refine ob_hle ?_; simp -dsimp [allK, ]; repeat' (first | (refine And.intro ?_ ?_) | (refine sLe.same ?_ ?_ <;> (simp; done)) | (refine sLe.clear ?_ ?_ <;> (first | (simp; done) | (simp; omega))) | (refine sLe.drop 1 ?_ ?_ ?_ <;> (simp; done))))
  rintro ⟨k, hk, hall⟩
  simp only
  have hI := stT_inv (l := l) c1 k (by omega) hall
  have hOk := hI.ok (by omega)
  by_cases hk1 : k < l.length
  · have hki : (k : Int) < l.length := by omega
    have wk : IntKind.wrap .i64 ((k : Int) + 1) = (k + 1 : Nat) := wrap_id (by omega) (by omega)
    obtain ⟨w, hw, hw'⟩ := get_ex hk1
    have hg : l.getD k default = w := by simp [List.getD, hw]
    have hok : okAt r l k = (stT r l k).doOk w := by simp only [okAt, hg]
    have hst : stT r l (k + 1) = { (stT r l k).after w with wk := IntKind.wrap .i64 (((stT r l k).after w).wk + 1) } := by simp only [stT, hg, HG.step, wadd, after_wk]
    generalize hS : stT r l k = S at *
    have hbl : ∀ (S : HG) (X : Site) (a b : Nat), Blank doOwn (Ob hgL S (hps [(1808, X), (5003, { base := a, blks := [] }), (8810, { base := b, blks := [] }), (1802, { base := 1, blks := [] }), (4901, { base := 1000000, blks := [] }), (4905, { base := 1000000, blks := [] }), (4944, { base := 1000000, blks := [] })] noH)) := by
      intro S X a b k hk
      simp only [doOwn, List.mem_cons, List.not_mem_nil, or_false] at hk
      rcases hk with rfl | rfl <;> simp
    cases hd : S.doOk w
    · have hba : badAt r l = k := badAt_at hk1 (by rw [hok, hd]) hall
      have hE : opE r l = 91 := by simp [opE, c1, c2, hba] <;> omega
      have hA : opA r l = k := by simp [opA, c1, c2, hba] <;> omega
      simp -dsimp [hki, -lendN, -lend1]
      repeat' (first | omega | (simp -dsimp [E18, ri, cellp, ints, -lendN, -lend1, hki, hk1, hw, hw', Wk.row, do_go', hOk, hbl, bmp, g_hset, hd, hE, hA]) | (refine Also.intro ?_ fun _ => ?_) | (refine Hold.intro fun _ => ?_) | (refine And.intro ?_ ?_))
    · have hall' : ∀ j, j < k + 1 → okAt r l j = true := fun j hj => by
        by_cases e : j = k
        · subst e; rw [hok, hd]
        · exact hall j (by omega)
      generalize hS' : S.after w = S' at *
      have hww := fun h => w_wk (s := S') (h := h) (IntKind.wrap .i64 (S'.wk + 1))
      rw [← hst] at hww
      simp -dsimp [hki, -lendN, -lend1]
      repeat' (first | omega | (simp -dsimp [E18, ri, cellp, ints, -lendN, -lend1, hki, hk1, hw, hw', Wk.row, do_go', hOk, hbl, bmp, g_hset, hd, hS', hww, wk]) | (refine Also.intro ?_ fun _ => ?_) | (refine Hold.intro fun _ => ?_) | (refine And.intro ?_ ?_))
      refine ⟨k + 1, tle_chain rfl ?_, (by (try simp -dsimp only [hpush_hps, hps_app, List.cons_append, List.nil_append, hps_over]); refine ob_hle ?_; simp -dsimp [allK, ]; repeat' (first | (refine And.intro ?_ ?_) | (refine sLe.same ?_ ?_ <;> (simp; done)) | (refine sLe.clear ?_ ?_ <;> (first | (simp; done) | (simp; omega))) | (refine sLe.drop 1 ?_ ?_ ?_ <;> (simp; done)))), ⟨by omega, hall'⟩, by omega⟩
      simp [okAll, okv]
  · have hkn : ¬ (k : Int) < l.length := by omega
    have hke : k = l.length := by omega
    subst hke
    have hba : badAt r l = -1 := badAt_none hall
    have hE : opE r l = 0 := by simp [opE, c1, c2, hba]
    have hA : opA r l = 0 := by simp [opA, c1, c2, hba]
    have hHk := hOk.hok
    simp -dsimp [hkn, -lendN, -lend1]
    repeat' (first | omega | (simp -dsimp [E18, ri, cellp, ints, -lendN, -lend1, hkn, hE, hA, opH, hHk, HI.v]) | (refine Also.intro ?_ fun _ => ?_) | (refine Hold.intro fun _ => ?_) | (refine And.intro ?_ ?_))
theorem ok18 : FnOK Tryz.prog 18 (.pure openS) := pure_fn (E := E18) rfl (.cons ok48 (.cons ok49 (.cons ok50 .nil))) (ok := []) (fn := Tryz.f18) (by kernel_rfl) (by kernel_rfl) (by kernel_rfl) (by kernel_rfl) rfl (fun _ _ => by simp) b18
end Go.Sx
end
