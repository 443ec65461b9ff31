/- A part of a proof; no conditions. -/
import Derived.Test.YtomgmojjdgiieaaGreatP45
import Derived.Test.YtomgmojjdgiieaaGreatP32
set_option linter.unusedSimpArgs false
set_option linter.unusedVariables false
set_option linter.unusedSectionVars false
section
/- Engine: Cleared, as it is exported. No conditions. -/
set_option linter.unusedSimpArgs false
set_option linter.unusedSectionVars false
set_option maxRecDepth 100000
set_option maxHeartbeats 16000000
namespace Go.Sx.Rot
open Go.Proofs Go.Sx Go.Sx.Tab
attribute [local irreducible] HLe TB lfT
attribute [local simp] hps_app mpEl_before mpEl_known zMp_po zMp_int cz142 tk142 ag142 by142 zz142
theorem covU (s : St) (H : Hp) (_ : H 4401 = { base := (H 4401).base, blks := [] }) (_ : H 4403 = { base := 0, blks := [] }) (_ : H 4404 = { base := 0, blks := [] }) :
    covS.go [.agg [.ip 36 [s.x.row] 0 0, .int .i64 s.f.len, .int .i64 s.f.clr, .int .i64 s.f.safe, .sl 2 (s.f.hs.map Hi.row)]] H = ⟨True, .fn 77 [.bptr 4403 0 1 0 0, .ip 5 [[.ip 36 [s.x.row] 0 0, .int .i64 s.f.len, .int .i64 s.f.clr, .int .i64 s.f.safe, .sl 2 (s.f.hs.map Hi.row)]] 0 0], hps [(4401, gn ((H 4401).base + 1)), (4403, { base := 0, blks := [{ z := 1, els := [[.bmp 4404 0]], ty := 142, cl := false }] }), (4404, { base := 0, blks := [], mps := [{ sc := true, d := [0], es := [] }] })] H⟩ := cov_go s ⟨by assumption, by assumption, by assumption⟩
structure CldP (d : St × List Po) : Prop where
  s : StP d.1
  n : d.2.length ≤ 30
  p : ∀ p ∈ po0 :: d.2, PoP d.1 p
def lastP (l : List Po) : Po := (po0 :: l).getD l.length po0
theorem last_get (l : List Po) : ((po0 :: l).map Po.row)[l.length]? = some [.int .i64 (lastP l).x, .int .i64 (lastP l).v, .int .i64 (lastP l).h] := by
  have h : l.length < (po0 :: l).length := by simp
  rw [List.getElem?_map, List.getElem?_eq_getElem h, lastP, List.getD, List.getElem?_eq_getElem h]; rfl
theorem last_mem (l : List Po) : lastP l ∈ po0 :: l := by
  have h : l.length < (po0 :: l).length := by simp
  rw [lastP, List.getD, List.getElem?_eq_getElem h]
  exact List.getElem_mem h
noncomputable def cldZ (s : St) (l : List Po) : Int := idxZ (po0 :: l) (unc s)
noncomputable def cldB (s : St) (l : List Po) : Bool := decide (cldZ s l < 0) && awayB s (lastP l)
noncomputable abbrev cldS : PSpec := mkP slpE CldP fun d => .tup [.int .i64 (cldZ d.1 d.2), .bool (cldB d.1 d.2)]
theorem idx_m1 {l : List Po} {P : Po → Bool} (h : idxZ l P < 0) : idxZ l P = -1 := by
  by_cases hx : ∃ k : Nat, ∃ hk : k < l.length, P l[k] = true ∧ ∀ j (h : j < l.length), j < k → P l[j] = false
  · obtain ⟨k, hk, h1, h2⟩ := hx
    rw [idxZ_at l P hk h1 h2] at h; omega
  · refine idxZ_none l P fun j hj => ?_
    induction j using Nat.strongRecOn with
    | ind j ih =>
      cases hp : P l[j] with
      | false => rfl
      | true => exact absurd ⟨j, hj, hp, fun i h hi => ih i hi h⟩ hx
noncomputable abbrev E23 : Env := { P := Tryz.prog, fn := tbl [(44, .heap covS), (45, .pure posS), (46, .heap ixcS), (48, .pure awyS)], own := [], key := 2300, nt := 26, frz := [(1, [2, 50002])] }
theorem b23 : PureBody E23 [(6, ([], [[0, 1, 2, 3, 4, 5, 6, 7, 8, 9]]))] Tryz.f23 cldS := by
  refine pb ?_
  rintro ⟨s, l⟩ ⟨hs, hn, hp⟩
  simp only at hs hn hp
  have d1 := posE_dec l
  have hu := covU s
  have hi := ixU s (po0 :: l) [] []
  have hx : IxP ⟨s, po0 :: l, [], []⟩ := ⟨hs, hp, .nil s, by simp only [List.length_cons]; omega⟩
  have hz : cldB s l = (decide (cldZ s l < 0) && awayB s (lastP l)) := rfl
  have hzz : idxZ (po0 :: l) (unc s) = cldZ s l := rfl
  rw [hzz] at hi
  have hm1 : cldZ s l < 0 → cldZ s l = -1 := idx_m1
  have hd2 := poP_dec s (lastP l)
  have hlp : SpoP (s, lastP l) := ⟨hs, hp _ (last_mem l)⟩
  have hlg := last_get l
  have hrow : po0.row = [.int .i64 po0.x, .int .i64 po0.v, .int .i64 po0.h] := rfl
  simp only [List.map_cons, hrow] at hlg hi
  have hlg' := (List.getElem?_eq_some_iff.1 hlg).2
  have wl : IntKind.wrap .i64 ((l.length : Int) + 1 - 1) = (l.length : Nat) := by rw [Int.add_sub_cancel]; exact wrap_id (by omega) (by omega)
  have wl' : IntKind.wrap .i64 (l.length : Int) = (l.length : Nat) := wrap_id (by omega) (by omega)
  generalize esF s [] (po0 :: l) = eF at *
  generalize msF s [] [] (po0 :: l) = mF at *
  generalize cldZ s l = z at *
  generalize cldB s l = cb at *
  clear hp
  by_cases h0 : z < 0
  · have hz1 := hm1 h0
    have h0' : (0 ≤ z) = False := eq_false (by omega)
    have hzb : cb = awayB s (lastP l) := by rw [hz, decide_eq_true h0, Bool.true_and]
    subst hz1
    simp -dsimp [Tryz.f23, E23, St.row]
    repeat' (first | omega | (simp -dsimp [E23, ri, cellp, ints, St.row, d1, hu, hi, hx, h0', hlg, hlg', hd2, hlp, hzb, wl, wl', hn, cvC, covV, knV, gn, hrow, Po.row]) | (refine Also.intro ?_ fun _ => ?_) | (refine Hold.intro fun _ => ?_) | (refine And.intro ?_ ?_))
  · have h0' : (0 ≤ z) = True := eq_true (by omega)
    have hzb : cb = false := by rw [hz, decide_eq_false h0, Bool.false_and]
    simp -dsimp [Tryz.f23, E23, St.row]
    repeat' (first | omega | (simp -dsimp [E23, ri, cellp, ints, St.row, d1, hu, hi, hx, h0', hzb, hn, cvC, covV, knV, gn, hrow, Po.row]) | (refine Also.intro ?_ fun _ => ?_) | (refine Hold.intro fun _ => ?_) | (refine And.intro ?_ ?_))
theorem ok23 : FnOK Tryz.prog 23 (.pure cldS) := pure_fn (E := E23) rfl (.cons ok44 (.cons ok45 (.cons ok46 (.cons ok48 .nil)))) (ok := [(6, ([], [[0, 1, 2, 3, 4, 5, 6, 7, 8, 9]]))]) (fn := Tryz.f23) (by kernel_rfl) (by kernel_rfl) (by kernel_rfl) (by kernel_rfl) rfl (fun _ _ => by simp) b23
theorem wr_ok {s : St} : ∀ {l : List Po} {p : Po}, PoP s p → wrN s p l = l.length → ∀ q ∈ p :: l, PoP s q
  | [], p, hp, _ => by intro q hq; simp at hq; subst hq; exact hp
  | q :: l, p, hp, h => by
    simp only [wrN, List.length_cons] at h
    split at h
    · rename_i hm
      have ih := wr_ok (l := l) (st_ok hp hm) (by omega)
      intro x hx
      rcases List.mem_cons.1 hx with rfl | hx
      · exact hp
      · exact ih x hx
    · omega
theorem nd_ok {c : Cr} {a : Ai} {f : Fl} {l : List Po} (h : ndE c a f l = 0) : caE c a = 0 ∧ fdE f = 0 ∧ l.length ≤ 30 ∧ wrN (stOf c a f) po0 l = l.length := by
  unfold ndE at h
  by_cases h1 : nsW c a f = 0
  · rw [if_pos h1] at h
    unfold nsW at h1
    by_cases h2 : caE c a = 0
    · rw [if_pos h2] at h1
      by_cases h3 : 30 < l.length
      · rw [if_pos h3] at h; cases h
      · rw [if_neg h3] at h
        by_cases h4 : wrN (stOf c a f) po0 l = l.length
        · exact ⟨h2, h1, by omega, h4⟩
        · rw [if_neg h4] at h; cases h
    · rw [if_neg h2] at h1; exact absurd h1 h2
  · rw [if_neg h1] at h; exact absurd h h1
theorem cld_pre {c : Cr} {a : Ai} {f : Fl} {l : List Po} (h : ndE c a f l = 0) : CldP (stOf c a f, l) := by
  obtain ⟨h1, h2, h3, h4⟩ := nd_ok h
  have hs : StP (stOf c a f) := stP_of h1 h2
  have hcb := crI_b hs.i
  exact ⟨hs, h3, wr_ok ⟨by decide, by decide, by decide, by simp only [po0]; omega, by decide, by decide⟩ h4⟩
noncomputable def clZ (c : Cr) (a : Ai) (f : Fl) (l : List Po) : Int := if ndE c a f l = 0 then cldZ (stOf c a f) l else (ndA c a f l : Nat)
noncomputable def clB (c : Cr) (a : Ai) (f : Fl) (l : List Po) : Bool := if ndE c a f l = 0 then cldB (stOf c a f) l else false
noncomputable abbrev cleS : PSpec := mkP depE DepP fun d => .tup [.int .i64 (clZ d.1 d.2.1 d.2.2.1 d.2.2.2), .bool (clB d.1 d.2.1 d.2.2.1 d.2.2.2), .int .i64 (ndE d.1 d.2.1 d.2.2.1 d.2.2.2)]
theorem dep_dec (c : Cr) (a : Ai) (f : Fl) (l : List Po) : decC depE [.agg c.row, .agg [.int .i64 a.w.lo, .int .i64 a.w.hi, .int .i64 a.t.lo, .int .i64 a.t.hi, .int .i64 a.h.lo, .int .i64 a.h.hi, .int .i64 a.v.lo, .int .i64 a.v.hi], .agg [.int .i64 f.len, .int .i64 f.clr, .int .i64 f.safe, .sl 2 (f.hs.map Hi.row)], .sl 3 (l.map Po.row)] = (c, a, f, l) := decC_eq depE_inj (c, a, f, l)
noncomputable abbrev E10 : Env := { P := Tryz.prog, fn := tbl [(22, .pure nepS), (23, .pure cldS)], own := [], key := 1000, nt := 34 }
theorem b10 : PureBody E10 [] Tryz.f10 cleS := by
  refine pb ?_
  rintro ⟨c, a, f, l⟩ hP
  have d1 := dep_dec c a f l
  by_cases h0 : ndE c a f l = 0
  · have hca := (nd_ok h0).1
    have hpre := cld_pre h0
    have hZ : clZ c a f l = cldZ (stOf c a f) l := if_pos h0
    have hB : clB c a f l = cldB (stOf c a f) l := if_pos h0
    have hs1 : (stOf c a f).x = ncF c a := rfl
    have hs2 : (stOf c a f).f = f := rfl
    have d2 := slp_dec (stOf c a f) l
    rw [hs1, hs2] at d2
    have hst : stOf c a f = ⟨ncF c a, f⟩ := rfl
    simp -dsimp [Tryz.f10, E10, Ai.row, Fl.row]
    repeat' (first | omega | (simp -dsimp [E10, ri, cellp, ints, Ai.row, Fl.row, St.row, d1, d2, hP, h0, hca, hpre, hZ, hB, hs1, hs2]) | (refine Also.intro ?_ fun _ => ?_) | (refine Hold.intro fun _ => ?_) | (refine And.intro ?_ ?_))
  · have h0' : (ndE c a f l == 0) = false := by simpa using h0
    have hZ : clZ c a f l = (ndA c a f l : Nat) := if_neg h0
    have hB : clB c a f l = false := if_neg h0
    by_cases hca : caE c a = 0
    · have hs1 : (stOf c a f).x = ncF c a := rfl
      have hs2 : (stOf c a f).f = f := rfl
      simp -dsimp [Tryz.f10, E10, Ai.row, Fl.row]
      repeat' (first | omega | (simp -dsimp [E10, ri, cellp, ints, Ai.row, Fl.row, St.row, d1, hP, h0, hca, hZ, hB, hs1, hs2]) | (refine Also.intro ?_ fun _ => ?_) | (refine Hold.intro fun _ => ?_) | (refine And.intro ?_ ?_))
    · simp -dsimp [Tryz.f10, E10, Ai.row, Fl.row]
      repeat' (first | omega | (simp -dsimp [E10, ri, cellp, ints, Ai.row, Fl.row, st0, d1, hP, h0, hca, hZ, hB]) | (refine Also.intro ?_ fun _ => ?_) | (refine Hold.intro fun _ => ?_) | (refine And.intro ?_ ?_))
theorem ok10 : FnOK Tryz.prog 10 (.pure cleS) := pure_fn (E := E10) rfl (.cons ok22 (.cons ok23 .nil)) (ok := []) (fn := Tryz.f10) (by kernel_rfl) (by kernel_rfl) (by kernel_rfl) (by kernel_rfl) rfl (fun _ _ => by simp) b10
end Go.Sx.Rot
end
section
/- Tops: what the law of the parted air calls besides. No conditions. -/
set_option linter.unusedSimpArgs false
set_option linter.unusedSectionVars false
set_option maxRecDepth 100000
set_option maxHeartbeats 8000000
namespace Go.Sx.Rot
open Go.Proofs Go.Sx Go.Sx.Tab
attribute [local irreducible] HLe
attribute [local simp] hps_app
noncomputable abbrev E6 : Env := { P := Tryz.prog, fn := tbl [(17, .pure bouS)], own := [], key := 600, nt := 25 }
theorem b6 : PureBody E6 [] Tryz.f6 mesS := by
  refine pb ?_
  rintro ⟨⟩ _
  have hP : TbP mzD.t := ⟨by decide, by decide, by decide⟩
  have h1 := mz_err
  have h2 : (boundF mzD).row = [.int .i64 10, .int .i64 40] := by rw [mz_bound]; rfl
  have hd := mz_dec
  have hE : bdE mzD = [.agg [.sl 1 [[.int .i64 0], [.int .i64 10], [.int .i64 20]], .sl 1 [[.int .i64 0], [.int .i64 5]], .sl 1 [[.sl 1 [[.int .i64 0], [.int .i64 10]]], [.sl 1 [[.int .i64 20], [.int .i64 30]]], [.sl 1 [[.int .i64 10], [.int .i64 50]]]]], .agg [.int .i64 5, .int .i64 15], .agg [.int .i64 0, .int .i64 5]] := rfl
  have e1 : mzD.t.xs = [0, 10, 20] := rfl
  have e2 : mzD.t.ys = [0, 5] := rfl
  have e3 : mzD.t.vs = [[0, 10], [20, 30], [10, 50]] := rfl
  have e4 : mzD.a.lo = 5 := rfl
  have e5 : mzD.a.hi = 15 := rfl
  have e6 : mzD.b.lo = 0 := rfl
  have e7 : mzD.b.hi = 5 := rfl
  have e8 : (boundF mzD).lo = 10 := by rw [mz_bound]
  have e9 : (boundF mzD).hi = 40 := by rw [mz_bound]
  generalize mzD = D at *
  simp -dsimp [Tryz.f6, E6]
  repeat' (first | omega | (simp -dsimp [E6, ri, cellp, ints, hd, hP, h1, e1, e2, e3, e4, e5, e6, e7, e8, e9, ri, rwI, ints, Sp.row]) | (refine Also.intro ?_ fun _ => ?_) | (refine Hold.intro fun _ => ?_) | (refine And.intro ?_ ?_))
theorem ok6 : FnOK Tryz.prog 6 (.pure mesS) := pure_fn (E := E6) rfl (.cons ok17 .nil) (ok := []) (fn := Tryz.f6) (by kernel_rfl) (by kernel_rfl) (by kernel_rfl) (by kernel_rfl) rfl (fun _ _ => by simp) b6
@[simp] def wiE (d : Int × Sp) : List V := [.int .i64 d.1, .agg d.2.row]
theorem wiE_inj (a b : Int × Sp) (h : wiE a = wiE b) : a = b := by
  obtain ⟨a1, a2⟩ := a; obtain ⟨b1, b2⟩ := b
  simp only [wiE, List.cons.injEq, V.int.injEq, V.agg.injEq, true_and, and_true] at h
  rw [h.1, Sp.row_inj _ _ h.2]
theorem wiE_dec (n : Int) (s : Sp) : decC wiE [.int .i64 n, .agg [.int .i64 s.lo, .int .i64 s.hi]] = (n, s) := decC_eq wiE_inj (n, s)
def inSp (n : Int) (s : Sp) : Int := s.lo + ((n.tmod (s.hi - s.lo + 1)) + (s.hi - s.lo + 1)).tmod (s.hi - s.lo + 1)
theorem tmod_b (n : Int) {w : Int} (h : 0 < w) : -w < n.tmod w ∧ n.tmod w < w := by
  constructor
  · rcases Int.le_total 0 n with h1 | h1
    · have := Int.tmod_nonneg w h1; omega
    · have h2 := Int.tmod_lt_of_pos (-n) h
      rw [Int.neg_tmod] at h2; omega
  · exact Int.tmod_lt_of_pos n h
theorem inSp_b {n : Int} {s : Sp} (h : s.lo ≤ s.hi) : s.lo ≤ inSp n s ∧ inSp n s ≤ s.hi := by
  have h1 := tmod_b n (w := s.hi - s.lo + 1) (by omega)
  have h2 := Int.tmod_nonneg (s.hi - s.lo + 1) (a := n.tmod (s.hi - s.lo + 1) + (s.hi - s.lo + 1)) (by omega)
  have h3 := Int.tmod_lt_of_pos (n.tmod (s.hi - s.lo + 1) + (s.hi - s.lo + 1)) (b := s.hi - s.lo + 1) (by omega)
  unfold inSp
  omega
noncomputable abbrev wisS : PSpec := mkP wiE (fun d => spN d.2 = false) fun d => .int .i64 (inSp d.1 d.2)
noncomputable abbrev E7 : Env := { P := Tryz.prog, fn := tbl [], own := [], key := 700, nt := 22 }
theorem b7 : PureBody E7 [(2, ([], [[0, 1, 2, 3, 4, 5, 6, 7, 8, 9, 10]]))] Tryz.f7 wisS := by
  refine pb ?_
  rintro ⟨n, s⟩ hN
  have hN : spN s = false := hN
  rw [spN_eq] at hN
  simp only [Bool.not_eq_false', decide_eq_true_eq] at hN
  have w1 : IntKind.wrap .i64 (s.hi - s.lo) = s.hi - s.lo := wrap_id (by omega) (by omega)
  obtain ⟨w, hw⟩ : ∃ w, s.hi - s.lo + 1 = w := ⟨_, rfl⟩
  have w2 : IntKind.wrap .i64 (s.hi - s.lo + 1) = w := by rw [hw]; exact wrap_id (by omega) (by omega)
  have hwp : 0 < w := by omega
  have hwn : (w = 0) = False := eq_false (by omega)
  have hz : inSp n s = s.lo + ((n.tmod w) + w).tmod w := by rw [← hw]; rfl
  have hb := inSp_b (n := n) (s := s) (by omega)
  rw [hz] at hb
  have h1 := tmod_b n hwp
  obtain ⟨u, hu⟩ : ∃ u, n.tmod w = u := ⟨_, rfl⟩
  rw [hu] at hz hb h1
  have w3 : IntKind.wrap .i64 (u + w) = u + w := wrap_id (by omega) (by omega)
  obtain ⟨v, hv⟩ : ∃ v, (u + w).tmod w = v := ⟨_, rfl⟩
  rw [hv] at hz hb
  have w4 : IntKind.wrap .i64 (s.lo + v) = s.lo + v := wrap_id (by omega) (by omega)
  simp -dsimp [Tryz.f7, E7, Sp.row]
  repeat' (first | omega | (simp -dsimp [E7, ri, cellp, ints, Sp.row, w1, w2, w3, w4, hu, hv, hz, hwn]) | (refine Also.intro ?_ fun _ => ?_) | (refine Hold.intro fun _ => ?_) | (refine And.intro ?_ ?_))
theorem ok7 : FnOK Tryz.prog 7 (.pure wisS) := pure_fn (E := E7) rfl LOK.nil (ok := [(2, ([], [[0, 1, 2, 3, 4, 5, 6, 7, 8, 9, 10]]))]) (fn := Tryz.f7) (by kernel_rfl) (by kernel_rfl) (by kernel_rfl) (by kernel_rfl) rfl (fun _ _ => by simp) b7
@[simp] def ssE (d : Sp × Sp) : List V := [.agg d.1.row, .agg d.2.row]
theorem ssE_inj (a b : Sp × Sp) (h : ssE a = ssE b) : a = b := by
  obtain ⟨a1, a2⟩ := a; obtain ⟨b1, b2⟩ := b
  simp only [ssE, List.cons.injEq, V.agg.injEq, true_and, and_true] at h
  rw [Sp.row_inj _ _ h.1, Sp.row_inj _ _ h.2]
theorem ssE_dec (a b : Sp) : decC ssE [.agg [.int .i64 a.lo, .int .i64 a.hi], .agg [.int .i64 b.lo, .int .i64 b.hi]] = (a, b) := decC_eq ssE_inj (a, b)
noncomputable abbrev insS : PSpec := mkP ssE (fun _ => True) fun d => .bool (decide (d.2.lo ≤ d.1.lo) && decide (d.1.hi ≤ d.2.hi))
noncomputable abbrev E13 : Env := { P := Tryz.prog, fn := tbl [], own := [], key := 1300, nt := 17 }
theorem b13 : PureBody E13 [] Tryz.f13 insS := by
  refine pb ?_
  rintro ⟨a, b⟩ _
  by_cases h1 : b.lo ≤ a.lo
  · simp -dsimp [Tryz.f13, E13, Sp.row]
    repeat' (first | omega | (simp -dsimp [E13, ri, cellp, ints, Sp.row, h1]) | (refine Also.intro ?_ fun _ => ?_) | (refine Hold.intro fun _ => ?_) | (refine And.intro ?_ ?_))
  · have h1' : (b.lo ≤ a.lo) = False := eq_false h1
    simp -dsimp [Tryz.f13, E13, Sp.row]
    repeat' (first | omega | (simp -dsimp [E13, ri, cellp, ints, Sp.row, h1']) | (refine Also.intro ?_ fun _ => ?_) | (refine Hold.intro fun _ => ?_) | (refine And.intro ?_ ?_))
theorem ok13 : FnOK Tryz.prog 13 (.pure insS) := pure_fn (E := E13) rfl LOK.nil (ok := []) (fn := Tryz.f13) (by kernel_rfl) (by kernel_rfl) (by kernel_rfl) (by kernel_rfl) rfl (fun _ _ => by simp) b13
@[simp] def cfE (d : Cr × Fl × List Po) : List V := [.agg d.1.row, .agg d.2.1.row, .sl 3 (d.2.2.map Po.row)]
theorem cfE_inj (a b : Cr × Fl × List Po) (h : cfE a = cfE b) : a = b := by
  obtain ⟨a1, a2, a3⟩ := a; obtain ⟨b1, b2, b3⟩ := b
  simp only [cfE, List.cons.injEq, V.agg.injEq, V.sl.injEq, true_and, and_true] at h
  rw [Cr.row_inj _ _ h.1, Fl.row_inj _ _ h.2.1, mapRow_inj Po.row_inj h.2.2]
theorem cfE_dec (c : Cr) (f : Fl) (l : List Po) : decC cfE [.agg c.row, .agg [.int .i64 f.len, .int .i64 f.clr, .int .i64 f.safe, .sl 2 (f.hs.map Hi.row)], .sl 3 (l.map Po.row)] = (c, f, l) := decC_eq cfE_inj (c, f, l)
def farC (c : Cr) (f : Fl) (l : List Po) : Bool := farR c.r || (decide (10 < f.hs.length) || decide (40 < l.length))
noncomputable abbrev farcS : PSpec := mkP cfE (fun _ => True) fun d => .bool (farC d.1 d.2.1 d.2.2)
noncomputable abbrev E4 : Env := { P := Tryz.prog, fn := tbl [(14, .pure farrS)], own := [], key := 400, nt := 21 }
theorem b4 : PureBody E4 [] Tryz.f4 farcS := by
  refine pb ?_
  rintro ⟨c, f, l⟩ _
  have hz : farC c f l = (farR c.r || (decide (10 < f.hs.length) || decide (40 < l.length))) := rfl
  have hd := roE_dec c.r
  cases h1 : farR c.r
  · by_cases h2 : 10 < f.hs.length
    · have h2i : ((10 : Int) < f.hs.length) = True := eq_true (by omega)
      have hz' : farC c f l = true := by rw [hz, decide_eq_true h2]; simp
      simp -dsimp [Tryz.f4, E4, Fl.row]
      repeat' (first | omega | (simp -dsimp [E4, ri, cellp, ints, Fl.row, hd, h1, h2i, hz']) | (refine Also.intro ?_ fun _ => ?_) | (refine Hold.intro fun _ => ?_) | (refine And.intro ?_ ?_))
    · have h2i : ((10 : Int) < f.hs.length) = False := eq_false (by omega)
      have hz' : farC c f l = decide ((40 : Int) < l.length) := by
        rw [hz, h1, decide_eq_false h2, Bool.false_or, Bool.false_or]
        exact decide_eq_decide.2 (by omega)
      simp -dsimp [Tryz.f4, E4, Fl.row]
      repeat' (first | omega | (simp -dsimp [E4, ri, cellp, ints, Fl.row, hd, h1, h2i, hz']) | (refine Also.intro ?_ fun _ => ?_) | (refine Hold.intro fun _ => ?_) | (refine And.intro ?_ ?_))
  · have hz' : farC c f l = true := by rw [hz, h1]; rfl
    simp -dsimp [Tryz.f4, E4, Fl.row]
    repeat' (first | omega | (simp -dsimp [E4, ri, cellp, ints, Fl.row, hd, h1, hz']) | (refine Also.intro ?_ fun _ => ?_) | (refine Hold.intro fun _ => ?_) | (refine And.intro ?_ ?_))
theorem ok4 : FnOK Tryz.prog 4 (.pure farcS) := pure_fn (E := E4) rfl (.cons ok14 .nil) (ok := []) (fn := Tryz.f4) (by kernel_rfl) (by kernel_rfl) (by kernel_rfl) (by kernel_rfl) rfl (fun _ _ => by simp) b4
end Go.Sx.Rot
end
