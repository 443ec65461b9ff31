/- A part of a proof; no conditions. -/
import Derived.Test.YtomgmojjdgiieaaGreatP34
import Derived.Test.YtomgmojjdgiieaaGreatP32
import Derived.Test.YtomgmojjdgiieaaGreatP29
set_option linter.unusedSimpArgs false
set_option linter.unusedVariables false
set_option linter.unusedSectionVars false
section
/- Engine: crafts, airs and fields, their errors: the reference's. No conditions. -/
set_option linter.unusedSimpArgs false
set_option linter.unusedSectionVars false
set_option maxRecDepth 100000
set_option maxHeartbeats 16000000
namespace Go.Sx.Rot
open Go.Proofs Go.Sx Go.Sx.Tab
attribute [local irreducible] HLe
attribute [local simp] hps_app
noncomputable abbrev E34 : Env := { P := Tryz.prog, fn := tbl [], own := [], key := 3400, nt := 15 }
theorem b34 : PureBody E34 [] Tryz.f34 withinS := by
  refine pb ?_
  rintro ⟨n, a, b⟩ _
  simp -dsimp [Tryz.f34, E34, withinB]
  repeat' (first | omega | (simp -dsimp [E34, ri, cellp, ints, *]) | (refine Also.intro ?_ fun _ => ?_) | (refine Hold.intro fun _ => ?_) | (refine And.intro ?_ ?_))
theorem ok34 : FnOK Tryz.prog 34 (.pure withinS) := pure_fn (E := E34) rfl LOK.nil (ok := []) (fn := Tryz.f34) (by kernel_rfl) (by kernel_rfl) (by kernel_rfl) (by kernel_rfl) rfl (fun _ _ => by simp) b34
noncomputable abbrev oneS : PSpec := { dom := Int, enc := fun d => [.int .i64 d], dec := fun l => (l.getD 0 .top).toInt, pre := fun _ => True, res := fun d => .agg [.int .i64 d, .int .i64 d] }
noncomputable abbrev E63 : Env := { P := Tryz.prog, fn := tbl [], own := [], key := 6300, nt := 6 }
theorem b63 : PureBody E63 [] Tryz.f63 oneS := by
  refine pb ?_
  rintro n _
  simp -dsimp [Tryz.f63, E63]
  repeat' (first | omega | (simp -dsimp [E63, ri, cellp, ints, *]) | (refine Also.intro ?_ fun _ => ?_) | (refine Hold.intro fun _ => ?_) | (refine And.intro ?_ ?_))
theorem ok63 : FnOK Tryz.prog 63 (.pure oneS) := pure_fn (E := E63) rfl LOK.nil (ok := []) (fn := Tryz.f63) (by kernel_rfl) (by kernel_rfl) (by kernel_rfl) (by kernel_rfl) rfl (fun _ _ => by simp) b63
noncomputable abbrev E31 : Env := { P := Tryz.prog, fn := tbl [(62, .pure rotS), (34, .pure withinS), (33, .pure lieS), (63, .pure oneS)], own := [], key := 3100, nt := 75 }
theorem b31 : PureBody E31 [(6, ([], [[0, 1, 2, 3, 4, 5, 6, 7, 8, 9, 10, 11, 12, 13, 14, 15, 16, 17, 18, 19, 20]]))] Tryz.f31 ccS := by
  refine pb ?_
  rintro c hP
  have hP : RoP c.r := hP
  have dr := roE_dec c.r
  have hE : rotE c.r = if rotB c.r = true then 0 else 20 := rfl
  cases h1 : rotB c.r
  case false =>
    have hz : ccE c = 20 := by simp [ccE, h1]
    rw [h1] at hE
    simp -dsimp at hE
    simp -dsimp [Tryz.f31, E31]
    repeat' (first | omega | (simp -dsimp [E31, ri, cellp, ints, dr, hP, hE, h1, hz]) | (refine Also.intro ?_ fun _ => ?_) | (refine Hold.intro fun _ => ?_) | (refine And.intro ?_ ?_))
  rw [h1] at hE
  simp -dsimp at hE
  cases g0 : withinB c.one 0 100
  case false =>
    have hI : crI c = false := by simp [crI, g0]
    have hz : ccE c = 30 := by simp [ccE, h1, hI]
    simp -dsimp [Tryz.f31, E31]
    repeat' (first | omega | (simp -dsimp [E31, ri, cellp, ints, dr, hP, hE, h1, hz, g0]) | (refine Also.intro ?_ fun _ => ?_) | (refine Hold.intro fun _ => ?_) | (refine And.intro ?_ ?_))
  cases g1 : withinB c.unit 1 1000
  case false =>
    have hI : crI c = false := by simp [crI, g0, g1]
    have hz : ccE c = 30 := by simp [ccE, h1, hI]
    simp -dsimp [Tryz.f31, E31]
    repeat' (first | omega | (simp -dsimp [E31, ri, cellp, ints, dr, hP, hE, h1, hz, g0, g1]) | (refine Also.intro ?_ fun _ => ?_) | (refine Hold.intro fun _ => ?_) | (refine And.intro ?_ ?_))
  cases g2 : withinB c.step 1 1000
  case false =>
    have hI : crI c = false := by simp [crI, g0, g1, g2]
    have hz : ccE c = 30 := by simp [ccE, h1, hI]
    simp -dsimp [Tryz.f31, E31]
    repeat' (first | omega | (simp -dsimp [E31, ri, cellp, ints, dr, hP, hE, h1, hz, g0, g1, g2]) | (refine Also.intro ?_ fun _ => ?_) | (refine Hold.intro fun _ => ?_) | (refine And.intro ?_ ?_))
  cases g3 : withinB c.top 1 6
  case false =>
    have hI : crI c = false := by simp [crI, g0, g1, g2, g3]
    have hz : ccE c = 30 := by simp [ccE, h1, hI]
    simp -dsimp [Tryz.f31, E31]
    repeat' (first | omega | (simp -dsimp [E31, ri, cellp, ints, dr, hP, hE, h1, hz, g0, g1, g2, g3]) | (refine Also.intro ?_ fun _ => ?_) | (refine Hold.intro fun _ => ?_) | (refine And.intro ?_ ?_))
  cases g4 : withinB c.drop 1 3
  case false =>
    have hI : crI c = false := by simp [crI, g0, g1, g2, g3, g4]
    have hz : ccE c = 30 := by simp [ccE, h1, hI]
    simp -dsimp [Tryz.f31, E31]
    repeat' (first | omega | (simp -dsimp [E31, ri, cellp, ints, dr, hP, hE, h1, hz, g0, g1, g2, g3, g4]) | (refine Also.intro ?_ fun _ => ?_) | (refine Hold.intro fun _ => ?_) | (refine And.intro ?_ ?_))
  cases g5 : withinB c.touch 0 c.top
  case false =>
    have hI : crI c = false := by simp [crI, g0, g1, g2, g3, g4, g5]
    have hz : ccE c = 30 := by simp [ccE, h1, hI]
    simp -dsimp [Tryz.f31, E31]
    repeat' (first | omega | (simp -dsimp [E31, ri, cellp, ints, dr, hP, hE, h1, hz, g0, g1, g2, g3, g4, g5]) | (refine Also.intro ?_ fun _ => ?_) | (refine Hold.intro fun _ => ?_) | (refine And.intro ?_ ?_))
  cases g6 : withinB c.sink 1 c.drop
  case false =>
    have hI : crI c = false := by simp [crI, g0, g1, g2, g3, g4, g5, g6]
    have hz : ccE c = 30 := by simp [ccE, h1, hI]
    simp -dsimp [Tryz.f31, E31]
    repeat' (first | omega | (simp -dsimp [E31, ri, cellp, ints, dr, hP, hE, h1, hz, g0, g1, g2, g3, g4, g5, g6]) | (refine Also.intro ?_ fun _ => ?_) | (refine Hold.intro fun _ => ?_) | (refine And.intro ?_ ?_))
  have hI : crI c = true := by simp [crI, g0, g1, g2, g3, g4, g5, g6]
  have hb := crI_b hI
  have ht := tu_b hI
  have wt : IntKind.wrap .i64 (c.top * c.unit) = c.top * c.unit := wrap_id (by omega) (by omega)
  have l1 := ro_lens h1 ⟨c.r.l, 0, 100000⟩ (by simp [limL])
  have l2 := ro_lens h1 ⟨c.r.rl, 0, 10000⟩ (by simp [limL])
  simp only at l1 l2
  have p1 : 0 < c.r.l.xs.length ∧ c.r.l.xs.length ≤ 1000000 := by omega
  have p2 : 0 < c.r.rl.xs.length ∧ c.r.rl.xs.length ≤ 1000000 := by omega
  have hz : ccE c = if (lieB c.r.l.xs ⟨0, c.top * c.unit⟩ && lieB c.r.rl.xs ⟨0, 0⟩) = true then 0 else 30 := by simp [ccE, h1, hI]
  have d1 : decC lsE [.sl 1 (c.r.l.xs.map ri), .agg [.int .i64 0, .int .i64 (c.top * c.unit)]] = (c.r.l.xs, ⟨0, c.top * c.unit⟩) := lsE_dec c.r.l.xs ⟨0, c.top * c.unit⟩
  have d2 : decC lsE [.sl 1 (c.r.rl.xs.map ri), .agg [.int .i64 0, .int .i64 0]] = (c.r.rl.xs, ⟨0, 0⟩) := lsE_dec c.r.rl.xs ⟨0, 0⟩
  generalize hT : c.top * c.unit = T at *
  cases q1 : lieB c.r.l.xs ⟨0, T⟩
  case false =>
    rw [q1] at hz
    simp -dsimp at hz
    simp -dsimp [Tryz.f31, E31]
    repeat' (first | omega | (simp -dsimp [E31, ri, cellp, ints, dr, hP, hE, h1, hz, g0, g1, g2, g3, g4, g5, g6, hT, wt, p1, p2, d1, d2, q1, FreeAt, FoOk, Sp.row]) | (refine Also.intro ?_ fun _ => ?_) | (refine Hold.intro fun _ => ?_) | (refine And.intro ?_ ?_))
  cases q2 : lieB c.r.rl.xs ⟨0, 0⟩
  all_goals
    rw [q1, q2] at hz
    simp -dsimp at hz
    simp -dsimp [Tryz.f31, E31]
    repeat' (first | omega | (simp -dsimp [E31, ri, cellp, ints, dr, hP, hE, h1, hz, g0, g1, g2, g3, g4, g5, g6, hT, wt, p1, p2, d1, d2, q1, q2, FreeAt, FoOk, Sp.row]) | (refine Also.intro ?_ fun _ => ?_) | (refine Hold.intro fun _ => ?_) | (refine And.intro ?_ ?_))
theorem ok31 : FnOK Tryz.prog 31 (.pure ccS) := pure_fn (E := E31) rfl (.cons ok62 (.cons ok34 (.cons ok33 (.cons ok63 .nil)))) (ok := [(6, ([], [[0, 1, 2, 3, 4, 5, 6, 7, 8, 9, 10, 11, 12, 13, 14, 15, 16, 17, 18, 19, 20]]))]) (fn := Tryz.f31) (by kernel_rfl) (by kernel_rfl) (by kernel_rfl) (by kernel_rfl) rfl (fun _ _ => by simp) b31
def flS1 (f : Fl) : Site := { base := 0, blks := [{ z := 4, els := [[.int .i64 f.len, .int .i64 f.clr, .int .i64 f.safe, .sl 2 (f.hs.map Hi.row)]], ty := 36 }] }
noncomputable abbrev E16 : Env := { P := Tryz.prog, fn := tbl [(34, .pure withinS)], own := [], key := 1600, nt := 51 }
theorem b16 : PureBody E16 [] Tryz.f16 fdS := by
  refine pb ?_
  rintro f _
  cases g0 : withinB f.len 0 40
  case false =>
    have hz : fdE f = 31 := by simp [fdE, fdB, g0]
    simp -dsimp [Tryz.f16, E16, Fl.row]
    repeat' (first | omega | (simp -dsimp [E16, ri, cellp, ints, Fl.row, g0, hz]) | (refine Also.intro ?_ fun _ => ?_) | (refine Hold.intro fun _ => ?_) | (refine And.intro ?_ ?_))
  cases g1 : withinB f.clr 1 12
  case false =>
    have hz : fdE f = 31 := by simp [fdE, fdB, g0, g1]
    simp -dsimp [Tryz.f16, E16, Fl.row]
    repeat' (first | omega | (simp -dsimp [E16, ri, cellp, ints, Fl.row, g0, g1, hz]) | (refine Also.intro ?_ fun _ => ?_) | (refine Hold.intro fun _ => ?_) | (refine And.intro ?_ ?_))
  cases g2 : withinB f.safe 0 6
  case false =>
    have hz : fdE f = 31 := by simp [fdE, fdB, g0, g1, g2]
    simp -dsimp [Tryz.f16, E16, Fl.row]
    repeat' (first | omega | (simp -dsimp [E16, ri, cellp, ints, Fl.row, g0, g1, g2, hz]) | (refine Also.intro ?_ fun _ => ?_) | (refine Hold.intro fun _ => ?_) | (refine And.intro ?_ ?_))
  by_cases g3 : f.hs.length ≤ 6
  case neg =>
    have g3' : ((6 : Int) < f.hs.length) = True := eq_true (by omega)
    have hz : fdE f = 31 := by simp [fdE, fdB, g0, g1, g2, g3]
    simp -dsimp [Tryz.f16, E16, Fl.row]
    repeat' (first | omega | (simp -dsimp [E16, ri, cellp, ints, Fl.row, g0, g1, g2, g3', hz]) | (refine Also.intro ?_ fun _ => ?_) | (refine Hold.intro fun _ => ?_) | (refine And.intro ?_ ?_))
  have g3' : ((6 : Int) < f.hs.length) = False := eq_false (by omega)
  have hE : fdE f = if f.hs.any hiN = true then 31 else 0 := by
    simp only [fdE, fdB, g0, g1, g2, decide_eq_true g3, Bool.true_and]
    cases f.hs.any hiN <;> rfl
  simp -dsimp [Tryz.f16, E16, Fl.row]
  repeat' (first | omega | (simp -dsimp [E16, ri, cellp, ints, Fl.row, g0, g1, g2, g3']) | (refine Also.intro ?_ fun _ => ?_) | (refine Hold.intro fun _ => ?_) | (refine And.intro ?_ ?_))
  refine awp_loop [26, 27, 28, 29, 30, 33, 34, 35, 36, 37, 38, 39, 40, 41, 42, 43, 44, 45, 46, 47, 48, 49, 50, 2, 31, 32, 3] (fun k : { k : Nat // k ≤ f.hs.length ∧ (f.hs.take k).any hiN = false } => [(3, (true, .int .i64 k.1))]) (fun _ => hps [(1601, flS1 f)] noH) (fun k => f.hs.length - k.1) ⟨0, by omega, by simp⟩ ?_ ?_ ?_
  · simp [okAll, okv]
  · exact (by (try simp -dsimp only [hpush_noH, hpush_hps, hps_over]); refine hle_hps ?_; simp -dsimp [allK, flS1]; repeat' (first | (refine And.intro ?_ ?_) | (refine sLe.same ?_ ?_ <;> (simp; done)) | (refine sLe.clear ?_ ?_ <;> (first | (simp; done) | (simp; omega))) | (refine sLe.drop 1 ?_ ?_ ?_ <;> (simp; done))))
  rintro ⟨k, hk, hall⟩
  dsimp only
  by_cases hk1 : k < f.hs.length
  · have hki : (k : Int) < f.hs.length := by omega
    have wk : IntKind.wrap .i64 ((k : Int) + 1) = (k + 1 : Nat) := wrap_id (by omega) (by omega)
    obtain ⟨x, hx, hx'⟩ := get_ex hk1
    have hN : hiN x = (!withinB x.a (-40) 40 || !withinB x.h 1 12) := rfl
    have bad : hiN x = true → fdE f = 31 := fun h => by
      rw [hE, List.any_eq_true.2 ⟨x, hx' ▸ List.getElem_mem hk1, h⟩]; rfl
    cases w1 : withinB x.a (-40) 40
    case false =>
      have hz := bad (by rw [hN, w1]; rfl)
      simp -dsimp [hki]
      repeat' (first | omega | (simp -dsimp [E16, ri, cellp, ints, hki, hk1, hx, hx', Hi.row, flS1, w1, hz]) | (refine Also.intro ?_ fun _ => ?_) | (refine Hold.intro fun _ => ?_) | (refine And.intro ?_ ?_))
    cases w2 : withinB x.h 1 12
    case false =>
      have hz := bad (by rw [hN, w1, w2]; rfl)
      simp -dsimp [hki]
      repeat' (first | omega | (simp -dsimp [E16, ri, cellp, ints, hki, hk1, hx, hx', Hi.row, flS1, w1, w2, hz]) | (refine Also.intro ?_ fun _ => ?_) | (refine Hold.intro fun _ => ?_) | (refine And.intro ?_ ?_))
    simp -dsimp [hki]
    repeat' (first | omega | (simp -dsimp [E16, ri, cellp, ints, hki, hk1, hx, hx', Hi.row, flS1, w1, w2, wk]) | (refine Also.intro ?_ fun _ => ?_) | (refine Hold.intro fun _ => ?_) | (refine And.intro ?_ ?_))
    refine ⟨k + 1, tle_chain rfl ?_, ?_, ⟨by omega, ?_⟩, by omega⟩
    · simp [okAll, okv]
    · exact (by (try simp -dsimp only [hpush_noH, hpush_hps, hps_over]); refine hle_hps ?_; simp -dsimp [allK, flS1]; repeat' (first | (refine And.intro ?_ ?_) | (refine sLe.same ?_ ?_ <;> (simp; done)) | (refine sLe.clear ?_ ?_ <;> (first | (simp; done) | (simp; omega))) | (refine sLe.drop 1 ?_ ?_ ?_ <;> (simp; done))))
    · have hj' : (f.hs.take (k + 1)).any hiN = false := by rw [List.take_add_one, List.any_append, hall, hx]; simp [hN, w1, w2]
      simpa using hj'
  · have hkn : ¬ (k : Int) < f.hs.length := by omega
    have hk2 : k = f.hs.length := by omega
    have hz : fdE f = 0 := by
      rw [hE]; subst hk2; rw [List.take_length] at hall; rw [hall]; rfl
    simp -dsimp [hkn]
    repeat' (first | omega | (simp -dsimp [E16, ri, cellp, ints, hkn, flS1, hz]) | (refine Also.intro ?_ fun _ => ?_) | (refine Hold.intro fun _ => ?_) | (refine And.intro ?_ ?_))
theorem ok16 : FnOK Tryz.prog 16 (.pure fdS) := pure_fn (E := E16) rfl (.cons ok34 .nil) (ok := []) (fn := Tryz.f16) (by kernel_rfl) (by kernel_rfl) (by kernel_rfl) (by kernel_rfl) rfl (fun _ _ => by simp) b16
def caM (c : Cr) (a : Ai) : Ma := ⟨c.r, a⟩
def liB4 (c : Cr) (a : Ai) : Bool := lieB c.r.p.xs a.t && (lieB c.r.p.ys a.h && (lieB c.r.l.ys a.w && lieB c.r.rl.ys a.w))
def caE (c : Cr) (a : Ai) : Int := if ccE c = 0 then (if airE (caM c a) = 0 then (if liB4 c a = true then 0 else 1) else airE (caM c a)) else ccE c
@[simp] def caA (d : Cr × Ai) : List V := [.agg d.1.row, .agg d.2.row]
theorem caA_inj (a b : Cr × Ai) (h : caA a = caA b) : a = b := by
  obtain ⟨a1, a2⟩ := a; obtain ⟨b1, b2⟩ := b
  simp only [caA, List.cons.injEq, V.agg.injEq, and_true] at h
  rw [Cr.row_inj _ _ h.1, Ai.row_inj _ _ h.2]
theorem caA_dec (c : Cr) (a : Ai) : decC caA [.agg c.row, .agg a.row] = (c, a) := decC_eq caA_inj (c, a)
noncomputable abbrev caS : PSpec := mkP caA (fun d => RoP d.1.r) fun d => .int .i64 (caE d.1 d.2)
theorem ccE_ok {c : Cr} (h : ccE c = 0) : rotB c.r = true ∧ crI c = true ∧ lieB c.r.l.xs ⟨0, c.top * c.unit⟩ = true ∧ lieB c.r.rl.xs ⟨0, 0⟩ = true := by
  unfold ccE at h
  split at h
  case isFalse => cases h
  rename_i h1
  split at h
  case isFalse => cases h
  rename_i h2
  split at h
  case isFalse => cases h
  rename_i h3
  rw [Bool.and_eq_true] at h3
  exact ⟨h1, h2, h3.1, h3.2⟩
structure Lens (r : Ro) : Prop where
  px : 0 < r.p.xs.length ∧ r.p.xs.length ≤ 1000000
  py : 0 < r.p.ys.length ∧ r.p.ys.length ≤ 1000000
  lx : 0 < r.l.xs.length ∧ r.l.xs.length ≤ 1000000
  ly : 0 < r.l.ys.length ∧ r.l.ys.length ≤ 1000000
  rx : 0 < r.rl.xs.length ∧ r.rl.xs.length ≤ 1000000
  ry : 0 < r.rl.ys.length ∧ r.rl.ys.length ≤ 1000000
theorem lens_of {r : Ro} (h : rotB r = true) : Lens r := by
  have l1 := ro_lens h ⟨r.l, 0, 100000⟩ (by simp [limL])
  have l2 := ro_lens h ⟨r.rl, 0, 10000⟩ (by simp [limL])
  have l3 := ro_lens h ⟨r.p, 0, 100000⟩ (by simp [limL])
  simp only at l1 l2 l3
  exact ⟨by omega, by omega, by omega, by omega, by omega, by omega⟩
@[simp] theorem ro_c9 (r : Ro) : r.row[9]? = some (ints r.p.xs) := rfl
@[simp] theorem ro_c10 (r : Ro) : r.row[10]? = some (ints r.p.ys) := rfl
@[simp] theorem ro_c7 (r : Ro) : r.row[7]? = some (ints r.l.ys) := rfl
@[simp] theorem ro_c15 (r : Ro) : r.row[15]? = some (ints r.rl.xs) := rfl
@[simp] theorem ro_c16 (r : Ro) : r.row[16]? = some (ints r.rl.ys) := rfl
noncomputable abbrev E15 : Env := { P := Tryz.prog, fn := tbl [(31, .pure ccS), (32, .pure airS), (33, .pure lieS)], own := [], key := 1500, nt := 56 }
theorem b15 : PureBody E15 [] Tryz.f15 caS := by
  refine pb ?_
  rintro ⟨c, a⟩ hP
  have hP : RoP c.r := hP
  have hPm : RoP (caM c a).r := hP
  have dc := crE_dec c
  have da : decC arE [.agg c.r.row, .agg a.row] = caM c a := arE_dec (caM c a)
  have hm1 : (caM c a).r = c.r := rfl
  have hm2 : (caM c a).a = a := rfl
  have hE : caE c a = if ccE c = 0 then (if airE (caM c a) = 0 then (if liB4 c a = true then 0 else 1) else airE (caM c a)) else ccE c := rfl
  by_cases h1 : ccE c = 0
  case neg =>
    rw [if_neg h1] at hE
    simp -dsimp [Tryz.f15, E15]
    repeat' (first | omega | (simp -dsimp [E15, ri, cellp, ints, dc, hP, h1, hE]) | (refine Also.intro ?_ fun _ => ?_) | (refine Hold.intro fun _ => ?_) | (refine And.intro ?_ ?_))
  rw [if_pos h1] at hE
  by_cases h2 : airE (caM c a) = 0
  case neg =>
    rw [if_neg h2] at hE
    simp -dsimp [Tryz.f15, E15]
    repeat' (first | omega | (simp -dsimp [E15, ri, cellp, ints, dc, hP, h1, hE, da, hm1, hm2, h2]) | (refine Also.intro ?_ fun _ => ?_) | (refine Hold.intro fun _ => ?_) | (refine And.intro ?_ ?_))
  rw [if_pos h2] at hE
  have hL := lens_of (ccE_ok h1).1
  have p1 := hL.px; have p2 := hL.py; have p3 := hL.ly; have p4 := hL.ry
  have e1 := lsE_dec c.r.p.xs a.t
  have e2 := lsE_dec c.r.p.ys a.h
  have e3 := lsE_dec c.r.l.ys a.w
  have e4 := lsE_dec c.r.rl.ys a.w
  have hB : liB4 c a = (lieB c.r.p.xs a.t && (lieB c.r.p.ys a.h && (lieB c.r.l.ys a.w && lieB c.r.rl.ys a.w))) := rfl
  rw [hB] at hE
  cases g1 : lieB c.r.p.xs a.t
  case false =>
    rw [g1] at hE
    simp -dsimp at hE
    simp -dsimp [Tryz.f15, E15]
    repeat' (first | omega | (simp -dsimp [E15, ri, cellp, ints, dc, hP, h1, hE, da, hm1, hm2, h2, p1, p2, p3, p4, e1, e2, e3, e4, g1]) | (refine Also.intro ?_ fun _ => ?_) | (refine Hold.intro fun _ => ?_) | (refine And.intro ?_ ?_))
  cases g2 : lieB c.r.p.ys a.h
  case false =>
    rw [g1, g2] at hE
    simp -dsimp at hE
    simp -dsimp [Tryz.f15, E15]
    repeat' (first | omega | (simp -dsimp [E15, ri, cellp, ints, dc, hP, h1, hE, da, hm1, hm2, h2, p1, p2, p3, p4, e1, e2, e3, e4, g1, g2]) | (refine Also.intro ?_ fun _ => ?_) | (refine Hold.intro fun _ => ?_) | (refine And.intro ?_ ?_))
  cases g3 : lieB c.r.l.ys a.w
  case false =>
    rw [g1, g2, g3] at hE
    simp -dsimp at hE
    simp -dsimp [Tryz.f15, E15]
    repeat' (first | omega | (simp -dsimp [E15, ri, cellp, ints, dc, hP, h1, hE, da, hm1, hm2, h2, p1, p2, p3, p4, e1, e2, e3, e4, g1, g2, g3]) | (refine Also.intro ?_ fun _ => ?_) | (refine Hold.intro fun _ => ?_) | (refine And.intro ?_ ?_))
  cases g4 : lieB c.r.rl.ys a.w
  all_goals
    rw [g1, g2, g3, g4] at hE
    simp -dsimp at hE
    simp -dsimp [Tryz.f15, E15]
    repeat' (first | omega | (simp -dsimp [E15, ri, cellp, ints, dc, hP, h1, hE, da, hm1, hm2, h2, p1, p2, p3, p4, e1, e2, e3, e4, g1, g2, g3, g4]) | (refine Also.intro ?_ fun _ => ?_) | (refine Hold.intro fun _ => ?_) | (refine And.intro ?_ ?_))
theorem ok15 : FnOK Tryz.prog 15 (.pure caS) := pure_fn (E := E15) rfl (.cons ok31 (.cons ok32 (.cons ok33 .nil))) (ok := []) (fn := Tryz.f15) (by kernel_rfl) (by kernel_rfl) (by kernel_rfl) (by kernel_rfl) rfl (fun _ _ => by simp) b15
def alE (c : Cr) (a : Ai) (f : Fl) : Int := if caE c a = 0 then fdE f else caE c a
@[simp] def alA (d : Cr × Ai × Fl) : List V := [.agg d.1.row, .agg d.2.1.row, .agg d.2.2.row]
theorem alA_inj (a b : Cr × Ai × Fl) (h : alA a = alA b) : a = b := by
  obtain ⟨a1, a2, a3⟩ := a; obtain ⟨b1, b2, b3⟩ := b
  simp only [alA, List.cons.injEq, V.agg.injEq, and_true] at h
  rw [Cr.row_inj _ _ h.1, Ai.row_inj _ _ h.2.1, Fl.row_inj _ _ h.2.2]
noncomputable abbrev alS : PSpec := mkP alA (fun d => RoP d.1.r) fun d => .int .i64 (alE d.1 d.2.1 d.2.2)
noncomputable abbrev E5 : Env := { P := Tryz.prog, fn := tbl [(15, .pure caS), (16, .pure fdS)], own := [], key := 500, nt := 16 }
theorem b5 : PureBody E5 [] Tryz.f5 alS := by
  refine pb ?_
  rintro ⟨c, a, f⟩ hP
  have hP : RoP c.r := hP
  have d1 := caA_dec c a
  have d2 := flE_dec f
  have hE : alE c a f = if caE c a = 0 then fdE f else caE c a := rfl
  by_cases h1 : caE c a = 0
  · rw [if_pos h1] at hE
    simp -dsimp [Tryz.f5, E5, Fl.row]
    repeat' (first | omega | (simp -dsimp [E5, ri, cellp, ints, Fl.row, d1, d2, hP, h1, hE]) | (refine Also.intro ?_ fun _ => ?_) | (refine Hold.intro fun _ => ?_) | (refine And.intro ?_ ?_))
  · rw [if_neg h1] at hE
    simp -dsimp [Tryz.f5, E5, Fl.row]
    repeat' (first | omega | (simp -dsimp [E5, ri, cellp, ints, Fl.row, d1, d2, hP, h1, hE]) | (refine Also.intro ?_ fun _ => ?_) | (refine Hold.intro fun _ => ?_) | (refine And.intro ?_ ?_))
theorem ok5 : FnOK Tryz.prog 5 (.pure alS) := pure_fn (E := E5) rfl (.cons ok15 (.cons ok16 .nil)) (ok := []) (fn := Tryz.f5) (by kernel_rfl) (by kernel_rfl) (by kernel_rfl) (by kernel_rfl) rfl (fun _ _ => by simp) b5
end Go.Sx.Rot
end
section
/- Engine: parts of spans, quotients; what a craft is in an air (plain). No conditions. -/
set_option linter.unusedSimpArgs false
set_option linter.unusedSectionVars false
set_option maxRecDepth 100000
set_option maxHeartbeats 8000000
namespace Go.Sx.Rot
open Go.Proofs Go.Sx Go.Sx.Tab
attribute [local irreducible] HLe
attribute [local simp] hps_app
def maF (s : Sp) : Sp := if spN s = true then ⟨0, 0⟩ else s
noncomputable abbrev madS : PSpec := mkP i2E (fun _ => True) fun d => .tup [.agg (maF ⟨d.1, d.2⟩).row, .int .i64 (if spN ⟨d.1, d.2⟩ = true then 2 else 0)]
noncomputable abbrev E89 : Env := { P := Tryz.prog, fn := tbl [(105, .pure spvS)], own := [], key := 8900, nt := 15 }
theorem b89 : PureBody E89 [] Tryz.f89 madS := by
  refine pb ?_
  rintro ⟨a, b⟩ _
  have d1 : decC spE [.agg [.int .i64 a, .int .i64 b]] = ⟨a, b⟩ := spE_dec ⟨a, b⟩
  cases h : spN ⟨a, b⟩
  all_goals
    simp -dsimp [Tryz.f89, E89, Sp.row]
    repeat' (first | omega | (simp -dsimp [E89, ri, cellp, ints, Sp.row, d1, h, maF]) | (refine Also.intro ?_ fun _ => ?_) | (refine Hold.intro fun _ => ?_) | (refine And.intro ?_ ?_))
theorem ok89 : FnOK Tryz.prog 89 (.pure madS) := pure_fn (E := E89) rfl (.cons ok105 .nil) (ok := []) (fn := Tryz.f89) (by kernel_rfl) (by kernel_rfl) (by kernel_rfl) (by kernel_rfl) rfl (fun _ _ => by simp) b89
def paF (s : Sp) (n d : Int) : Sp := ⟨s.lo * n / d, -(-(s.hi * n) / d)⟩
@[simp] def paE (d : Sp × Int × Int) : List V := [.agg d.1.row, .int .i64 d.2.1, .int .i64 d.2.2]
theorem paE_inj (a b : Sp × Int × Int) (h : paE a = paE b) : a = b := by
  obtain ⟨a1, a2, a3⟩ := a; obtain ⟨b1, b2, b3⟩ := b
  simp only [paE, List.cons.injEq, V.agg.injEq, V.int.injEq, true_and, and_true] at h
  rw [Sp.row_inj _ _ h.1, h.2.1, h.2.2]
theorem paE_dec (s : Sp) (n d : Int) : decC paE [.agg [.int .i64 s.lo, .int .i64 s.hi], .int .i64 n, .int .i64 d] = (s, n, d) := decC_eq paE_inj (s, n, d)
structure PaP (d : Sp × Int × Int) : Prop where
  s : spN d.1 = false
  n : withinB d.2.1 0 1000 = true
  d : withinB d.2.2 1 1000 = true
noncomputable abbrev parS : PSpec := mkP paE PaP fun d => .tup [.agg (maF (paF d.1 d.2.1 d.2.2)).row, .int .i64 (if spN (paF d.1 d.2.1 d.2.2) = true then 2 else 0)]
noncomputable abbrev E58 : Env := { P := Tryz.prog, fn := tbl [(66, .pure spdS), (71, .pure withinS), (37, .pure floS), (70, .pure ceiS), (89, .pure madS)], own := [], key := 5800, nt := 40 }
theorem b58 : PureBody E58 [(6, ([], [[0, 1, 2, 3, 4, 5, 6, 7, 8, 9, 10, 11, 12, 13, 14, 15, 16]]))] Tryz.f58 parS := by
  refine pb ?_
  rintro ⟨s, n, d⟩ ⟨h1, h2, h3⟩
  simp only at h1 h2 h3
  have d1 := slE_dec1 s
  have b1 := h1
  rw [spN_eq] at b1
  simp only [Bool.not_eq_false', decide_eq_true_eq] at b1
  have b2 := h2
  have b3 := h3
  simp only [withinB, decide_eq_true_eq] at b2 b3
  have m1 := mulB (a := s.lo) (b := n) (by omega) (by omega) (by omega) (by omega)
  have m2 := mulB (a := s.hi) (b := n) (by omega) (by omega) (by omega) (by omega)
  have w1 : IntKind.wrap .i64 (s.lo * n) = s.lo * n := wrap_id (by omega) (by omega)
  have w2 : IntKind.wrap .i64 (s.hi * n) = s.hi * n := wrap_id (by omega) (by omega)
  have f1 : Tab.FlP (s.lo * n, d) := ⟨⟨by simp only; omega, by simp only; omega⟩, by simp only; omega⟩
  have f2 : Tab.FlP (s.hi * n, d) := ⟨⟨by simp only; omega, by simp only; omega⟩, by simp only; omega⟩
  have e1 := i2E_dec (s.lo * n) d
  have e2 := i2E_dec (s.hi * n) d
  have e3 := i2E_dec (s.lo * n / d) (-(-(s.hi * n) / d))
  have hpa : (⟨s.lo * n / d, -(-(s.hi * n) / d)⟩ : Sp) = paF s n d := rfl
  simp -dsimp [Tryz.f58, E58, Sp.row]
  repeat' (first | omega | (simp -dsimp [E58, ri, cellp, ints, Sp.row, d1, h1, h2, h3, w1, w2, f1, f2, e1, e2, e3, hpa]) | (refine Also.intro ?_ fun _ => ?_) | (refine Hold.intro fun _ => ?_) | (refine And.intro ?_ ?_))
theorem ok58 : FnOK Tryz.prog 58 (.pure parS) := pure_fn (E := E58) rfl (.cons ok66 (.cons ok71 (.cons ok37 (.cons ok70 (.cons ok89 .nil))))) (ok := [(6, ([], [[0, 1, 2, 3, 4, 5, 6, 7, 8, 9, 10, 11, 12, 13, 14, 15, 16]]))]) (fn := Tryz.f58) (by kernel_rfl) (by kernel_rfl) (by kernel_rfl) (by kernel_rfl) rfl (fun _ _ => by simp) b58
theorem efloor {m w : Int} (hw : 0 < w) : (if m < m.tdiv w * w then m.tdiv w - 1 else m.tdiv w) = m / w := by
  have h := floor_prog m w hw
  have h2 := Int.mul_tdiv_add_tmod m w
  rw [Int.mul_comm] at h2
  by_cases h0 : m.tmod w < 0
  · rw [if_pos h0] at h; rw [if_pos (by omega)]; exact h
  · rw [if_neg h0] at h; rw [if_neg (by omega)]; exact h
noncomputable abbrev efS : PSpec := mkP i2E (fun d => (-1000000000 ≤ d.1 ∧ d.1 ≤ 1000000000) ∧ 0 < d.2 ∧ d.2 ≤ 1000000) fun d => .int .i64 (d.1 / d.2)
noncomputable abbrev E60 : Env := { P := Tryz.prog, fn := tbl [], own := [], key := 6000, nt := 17 }
theorem b60 : PureBody E60 [] Tryz.f60 efS := by
  refine pb ?_
  rintro ⟨m, w⟩ ⟨hm, hw, hw2⟩
  simp only at hm hw hw2
  have hf := efloor (m := m) hw
  have hw0 : (w = 0) = False := eq_false (by omega)
  have ht : (m.tdiv w).natAbs ≤ m.natAbs := by rw [Int.natAbs_tdiv]; exact Nat.div_le_self _ _
  have hu := Int.mul_tdiv_add_tmod m w
  have hu2 := Int.tmod_lt_of_pos m hw
  have hu3 := Int.lt_tmod_of_pos m hw
  rw [Int.mul_comm] at hu
  generalize hq : m / w = q at *
  generalize htt : m.tdiv w = t at *
  have w1 : IntKind.wrap .i64 t = t := wrap_id (by omega) (by omega)
  have w2 : IntKind.wrap .i64 (t * w) = t * w := wrap_id (by omega) (by omega)
  have w3 : IntKind.wrap .i64 (t - 1) = t - 1 := wrap_id (by omega) (by omega)
  by_cases h0 : m < t * w
  all_goals
    first | rw [if_pos h0] at hf | rw [if_neg h0] at hf
    subst hf
    simp -dsimp [Tryz.f60, E60]
    repeat' (first | omega | (simp -dsimp [E60, ri, cellp, ints, hw0, htt, w1, w2, w3, h0, hq]) | (refine Also.intro ?_ fun _ => ?_) | (refine Hold.intro fun _ => ?_) | (refine And.intro ?_ ?_))
theorem ok60 : FnOK Tryz.prog 60 (.pure efS) := pure_fn (E := E60) rfl LOK.nil (ok := []) (fn := Tryz.f60) (by kernel_rfl) (by kernel_rfl) (by kernel_rfl) (by kernel_rfl) rfl (fun _ _ => by simp) b60
end Go.Sx.Rot
end
