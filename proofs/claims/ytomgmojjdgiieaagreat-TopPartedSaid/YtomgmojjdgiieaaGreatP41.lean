/- A part of a proof; no conditions. -/
import Derived.Test.YtomgmojjdgiieaaGreatP40
import Derived.Test.YtomgmojjdgiieaaGreatP22
import Derived.DeepKeys3
set_option linter.unusedSimpArgs false
set_option linter.unusedVariables false
set_option linter.unusedSectionVars false
section
/- Engine: a list turned round, in its place; the poses of a departure. No conditions. -/
set_option linter.unusedSimpArgs false
set_option linter.unusedSectionVars false
set_option maxRecDepth 100000
set_option maxHeartbeats 8000000
namespace Go.Sx.Rot
open Go.Proofs Go.Sx Go.Sx.Tab
attribute [local irreducible] HLe
attribute [local simp] hps_app
noncomputable def mkH {D : Type} (enc : D → List V) (HP : D → Hp → Prop) (pre : D → Prop) (res : D → V) (post : D → Hp → Hp) : HSpec :=
  { go := fun args h => open Classical in if hx : ∃ d, args = enc d ∧ HP d h then ⟨pre hx.choose, res hx.choose, post hx.choose h⟩ else bad h }
theorem mkH_at {D : Type} {enc : D → List V} {HP : D → Hp → Prop} {pre : D → Prop} {res : D → V} {post : D → Hp → Hp} (inj : ∀ d d' h, enc d = enc d' → HP d h → HP d' h → d = d') {d : D} {h : Hp} (hd : HP d h) :
    (mkH enc HP pre res post).go (enc d) h = ⟨pre d, res d, post d h⟩ := by
  have hx : ∃ d', enc d = enc d' ∧ HP d' h := ⟨d, rfl, hd⟩
  have e : hx.choose = d := (inj _ _ _ hx.choose_spec.1 hd hx.choose_spec.2).symm
  simp only [mkH]
  rw [dif_pos hx, e]
theorem mkH_inv {D : Type} {enc : D → List V} {HP : D → Hp → Prop} {pre : D → Prop} {res : D → V} {post : D → Hp → Hp} {args : List V} {h : Hp} (hc : ((mkH enc HP pre res post).go args h).c) :
    ∃ d, args = enc d ∧ HP d h ∧ pre d ∧ (mkH enc HP pre res post).go args h = ⟨pre d, res d, post d h⟩ := by
  simp only [mkH] at hc ⊢
  by_cases hx : ∃ d, args = enc d ∧ HP d h
  · rw [dif_pos hx] at hc
    exact ⟨hx.choose, hx.choose_spec.1, hx.choose_spec.2, hc, by rw [dif_pos hx]⟩
  · rw [dif_neg hx] at hc; exact hc.elim
def swp (M : List Po) (i : Nat) : List Po := (M.set i (M.getD (M.length - 1 - i) default)).set (M.length - 1 - i) (M.getD i default)
theorem swp_len (M : List Po) (i : Nat) : (swp M i).length = M.length := by simp [swp]
def rvN : Nat → Nat → List Po → List Po
  | 0, _, M => M
  | n + 1, i, M => if 2 * i + 1 < M.length then rvN n (i + 1) (swp M i) else M
theorem rvN_end (n i : Nat) (M : List Po) (h : ¬ 2 * i + 1 < M.length) : rvN n i M = M := by
  cases n with
  | zero => rfl
  | succ n => rw [rvN, if_neg h]
def rvB (L : List Po) : Blk := { z := 3, els := L.map Po.row, ty := 118 }
theorem rvB_inj {a b : List Po} (h : rvB a = rvB b) : a = b := by
  simp only [rvB, Blk.mk.injEq, and_true, true_and] at h; exact mapRow_inj Po.row_inj h
inductive RevD
  | e
  | b (s i : Nat) (L : List Po)
@[simp] def rvW : RevD → List V
  | .e => [.nil]
  | .b s i L => [.bsl s i L.length]
@[simp] def rvP : RevD → Hp → Prop
  | .e, _ => True
  | .b s i L, h => hget h s i = some (rvB L)
@[simp] def rvQ : RevD → Hp → Hp
  | .e, h => h
  | .b s i L, h => hset h s i (rvB (rvN L.length 0 L))
@[simp] def rvL : RevD → Prop
  | .e => True
  | .b _ _ L => L.length ≤ 1000000
noncomputable abbrev rvS : HSpec := mkH rvW rvP rvL (fun _ => .tup []) rvQ
theorem rv_inj (d d' : RevD) (h : Hp) (e : rvW d = rvW d') (h1 : rvP d h) (h2 : rvP d' h) : d = d' := by
  cases d <;> cases d' <;> simp only [rvW, List.cons.injEq, V.bsl.injEq, and_true, reduceCtorEq] at e
  · rfl
  · obtain ⟨rfl, rfl, _⟩ := e
    simp only [rvP] at h1 h2
    rw [h1] at h2
    rw [rvB_inj (Option.some.inj h2)]
theorem rv_nil (h : Hp) : rvS.go [.nil] h = ⟨True, .tup [], h⟩ := mkH_at rv_inj (d := .e) trivial
theorem rv_go {s i : Nat} {L : List Po} {h : Hp} (hB : hget h s i = some (rvB L)) : rvS.go [.bsl s i L.length] h = ⟨L.length ≤ 1000000, .tup [], hset h s i (rvB (rvN L.length 0 L))⟩ := mkH_at rv_inj (d := .b s i L) hB
theorem hset_self {h : Hp} {s i : Nat} {B : Blk} (hB : hget h s i = some B) : hset h s i B = h := by
  funext k
  unfold hset
  unfold hget at hB
  split at hB
  · cases hB
  · by_cases e : k = s
    · subst e
      rw [if_pos rfl]
      have : (h k).blks.set (i - (h k).base) B = (h k).blks := by
        refine List.ext_getElem? fun j => ?_
        rw [List.getElem?_set]
        split
        · rename_i e2; subst e2
          rw [hB]; split
          · rfl
          · rename_i g; rw [List.getElem?_eq_none (by omega)] at hB; cases hB
        · rfl
      rw [this]
    · rw [if_neg e]
structure RvO (T : List Po) (len : Nat) where
  i : Nat
  n : Nat
  M : List Po
  hn : i + n = len
  hl : M.length = len
  ht : rvN n i M = T
noncomputable abbrev E114 : Env := { P := Tryz.prog, fn := tbl [], own := [], key := 11400, nt := 28 }
theorem b114 : HeapBody E114 [(3, ([], [[0, 1, 2, 3, 4, 5, 6, 7, 8, 9, 10, 11, 12, 13, 14, 15]]))] Tryz.f114 rvS := by
  intro args h hc
  obtain ⟨d, rfl, hB, hL, hgo⟩ := mkH_inv hc
  rw [hgo]; clear hgo hc
  cases d with
  | e =>
    simp -dsimp [Tryz.f114, E114]
    repeat' (first | omega | (simp -dsimp [E114, ri, cellp, ints, *]) | (refine Also.intro ?_ fun _ => ?_) | (refine Hold.intro fun _ => ?_) | (refine And.intro ?_ ?_))
    refine awp_loop [7, 8, 9, 14, 15, 16, 17, 18, 19, 20, 21, 22, 23, 24, 25, 26, 27, 10, 11, 12, 13, 2, 3] (fun _ : Unit => [(2, (true, .int .i64 0)), (3, (true, .int .i64 (-1)))]) (fun _ => h) (fun _ => 0) () ?_ (HLe.refl _) ?_
    · simp [okAll, okv]
    rintro ⟨⟩
    simp -dsimp []
    repeat' (first | omega | (simp -dsimp [E114, ri, cellp, ints, *]) | (refine Also.intro ?_ fun _ => ?_) | (refine Hold.intro fun _ => ?_) | (refine And.intro ?_ ?_))
    exact HLe.refl _
  | b s i0 L =>
    simp only [rvP, rvL] at hB hL
    have hg := fun B => hget_set_same (B' := B) hB
    simp -dsimp [Tryz.f114, E114]
    repeat' (first | omega | (simp -dsimp [E114, ri, cellp, ints, *]) | (refine Also.intro ?_ fun _ => ?_) | (refine Hold.intro fun _ => ?_) | (refine And.intro ?_ ?_))
    refine awp_loop [7, 8, 9, 14, 15, 16, 17, 18, 19, 20, 21, 22, 23, 24, 25, 26, 27, 10, 11, 12, 13, 2, 3] (fun q : RvO (rvN L.length 0 L) L.length => [(2, (true, .int .i64 (q.i : Nat))), (3, (true, .int .i64 ((L.length : Int) - 1 - (q.i : Nat))))]) (fun q => hset h s i0 (rvB q.M)) (fun q => q.n) ⟨0, L.length, L, by omega, rfl, rfl⟩ ?_ ?_ ?_
    · simp [okAll, okv]; exact wrap_id (by omega) (by omega)
    · rw [hset_self hB]; exact HLe.refl _
    rintro ⟨i, n, M, hn, hl, ht⟩
    dsimp only
    by_cases hi : 2 * i + 1 < L.length
    case neg =>
      have hin : ((i : Int) < (L.length : Int) - 1 - i) = False := eq_false (by omega)
      rw [rvN_end _ _ _ (by omega)] at ht
      subst ht
      simp -dsimp [hin]
      repeat' (first | omega | (simp -dsimp [E114, ri, cellp, ints, hin, hle_refl]) | (refine Also.intro ?_ fun _ => ?_) | (refine Hold.intro fun _ => ?_) | (refine And.intro ?_ ?_))
    obtain ⟨m, rfl⟩ : ∃ m, n = m + 1 := ⟨n - 1, by omega⟩
    rw [rvN, if_pos (by omega)] at ht
    have hii : ((i : Int) < (L.length : Int) - 1 - i) = True := eq_true (by omega)
    obtain ⟨j, hj⟩ : ∃ j : Nat, (L.length : Int) - 1 - i = (j : Int) := ⟨L.length - 1 - i, by omega⟩
    have hj2 : M.length - 1 - i = j := by omega
    have wi : IntKind.wrap .i64 ((i : Int) + 1) = (i + 1 : Nat) := wrap_id (by omega) (by omega)
    have wj : IntKind.wrap .i64 ((j : Int) - 1) = (L.length : Int) - 1 - (i + 1 : Nat) := by rw [← hj, wrap_id (by omega) (by omega)]; omega
    rw [hj] at hii
    have hil : i < M.length := by omega
    have hjl : j < M.length := by omega
    have hil2 : i < L.length := by omega
    have hjl2 : j < L.length := by omega
    obtain ⟨x, hx, hx'⟩ := get_ex hil
    obtain ⟨y, hy, hy'⟩ := get_ex hjl
    have gx : M.getD i default = x := by simp [List.getD, hx]
    have gy : M.getD j default = y := by simp [List.getD, hy]
    have hsw : (swp M i).map Po.row = ((M.map Po.row).set i [.int .i64 y.x, .int .i64 y.v, .int .i64 y.h]).set j [.int .i64 x.x, .int .i64 x.v, .int .i64 x.h] := by
      simp only [swp, hj2, gx, gy, List.map_set, Po.row]
    rw [hj]
    simp -dsimp [hii]
    repeat' (first | omega | (simp -dsimp [E114, ri, cellp, ints, hii, hg, hl, rvB, hil, hjl, hil2, hjl2, hx, hy, hx', hy', Po.row, wi, wj, hset_hset, hle_refl]) | (refine Also.intro ?_ fun _ => ?_) | (refine Hold.intro fun _ => ?_) | (refine And.intro ?_ ?_))
    refine ⟨⟨i + 1, m, swp M i, by omega, by rw [swp_len]; exact hl, ht⟩, tle_chain rfl ?_, ?_, by simp only; omega⟩
    · simp [okAll, okv, wi, wj]
    · have hdr : ∀ h, List.drop 3 (((M.map Po.row).set i [V.int .i64 y.x, V.int .i64 y.v, V.int .i64 y.h])[j]'h) = [] := fun h => by
        rw [List.getElem_set_ne (by omega), List.getElem_map]; rfl
      simp only [rvB, hsw, hdr]; exact HLe.refl _
theorem ok114 : FnOK Tryz.prog 114 (.heap rvS) := heap_fn (E := E114) rfl LOK.nil (ok := [(3, ([], [[0, 1, 2, 3, 4, 5, 6, 7, 8, 9, 10, 11, 12, 13, 14, 15]]))]) (fn := Tryz.f114) (by kernel_rfl) (by kernel_rfl) (by kernel_rfl) (by kernel_rfl) rfl (fun args h hc => by obtain ⟨d, rfl, _⟩ := mkH_inv hc; cases d <;> simp) b114
@[simp] def posE (l : List Po) : List V := [.sl 3 (l.map Po.row)]
theorem posE_inj (a b : List Po) (h : posE a = posE b) : a = b := by
  simp only [posE, List.cons.injEq, V.sl.injEq, true_and, and_true] at h
  exact mapRow_inj Po.row_inj h
theorem posE_dec (l : List Po) : decC posE [.sl 3 (l.map Po.row)] = l := decC_eq posE_inj l
noncomputable abbrev posS : PSpec := mkP posE (fun l => l.length ≤ 30) fun l => .sl 3 ((po0 :: l).map Po.row)
noncomputable abbrev E45 : Env := { P := Tryz.prog, fn := tbl [], own := [4], key := 4500, nt := 7 }
theorem b45 : PureBody E45 [] Tryz.f45 posS := by
  refine pb ?_
  rintro l hl
  have hl : l.length ≤ 30 := hl
  simp -dsimp [Tryz.f45, E45, po0, Po.row]
  repeat' (first | omega | (simp -dsimp [E45, ri, cellp, ints, hl, po0, Po.row]) | (refine Also.intro ?_ fun _ => ?_) | (refine Hold.intro fun _ => ?_) | (refine And.intro ?_ ?_))
theorem ok45 : FnOK Tryz.prog 45 (.pure posS) := pure_fn (E := E45) rfl LOK.nil (ok := []) (fn := Tryz.f45) (by kernel_rfl) (by kernel_rfl) (by kernel_rfl) (by kernel_rfl) rfl (fun _ _ => by simp) b45
end Go.Sx.Rot
end
section
/- Engine: a departure that is made of steps. No conditions. -/
set_option linter.unusedSimpArgs false
set_option linter.unusedSectionVars false
set_option maxRecDepth 100000
set_option maxHeartbeats 8000000
namespace Go.Sx.Rot
open Go.Proofs Go.Sx Go.Sx.Tab
attribute [local irreducible] HLe
attribute [local simp] hps_app
theorem rt_b {c : Cr} {a : Ai} (F : CaF c a) (e : Nat) {v : Nat} (hv : (v : Int) ≤ c.top) : -1000000000 ≤ rt c a e v ∧ rt c a e v ≤ 1000000000 := by
  have h1 := pw_b F e
  have h2 := lev_b F hv
  have h3 := den_b F
  unfold rt
  generalize hm : pwN c a e - (bndF (levD (caM c a) (vS c v))).hi = m at *
  generalize hw : c.r.climb * c.step = w at *
  have w0 : 0 < w := by omega
  refine ⟨(Int.le_ediv_iff_mul_le w0).2 (by omega), Int.le_of_lt_add_one ((Int.ediv_lt_iff_lt_mul w0).2 (by omega))⟩
theorem stP_of {c : Cr} {a : Ai} {f : Fl} (h : caE c a = 0) (hf : fdE f = 0) : StP ⟨ncF c a, f⟩ := by
  have F := ca_facts h
  have hc := crI_b F.int
  have hn : ((c.top.toNat + 1 : Nat) : Int) = c.top + 1 := by omega
  refine ⟨F.int, ?_, ?_, ?_, ?_, ?_, ?_, ?_⟩
  · unfold fdE at hf; split at hf
    · assumption
    · cases hf
  · simp only [ncF, rtL_len]; exact hn
  · simp only [ncF, rtL_len]; exact hn
  · simp only [ncF, wksL_len]; exact hn
  · intro l hl
    simp only [ncF, wksL, List.mem_map] at hl
    obtain ⟨v, _, rfl⟩ := hl
    simp only [wkL_len, ncF]; omega
  · intro n hn
    simp only [ncF, rtL, List.mem_map, List.mem_range] at hn
    obtain ⟨v, hv, rfl⟩ := hn
    exact rt_b F 0 (by omega)
  · intro n hn
    simp only [ncF, rtL, List.mem_map, List.mem_range] at hn
    obtain ⟨v, hv, rfl⟩ := hn
    exact rt_b F 1 (by omega)
@[simp] def depE (d : Cr × Ai × Fl × List Po) : List V := [.agg d.1.row, .agg d.2.1.row, .agg d.2.2.1.row, .sl 3 (d.2.2.2.map Po.row)]
theorem depE_inj (a b : Cr × Ai × Fl × List Po) (h : depE a = depE b) : a = b := by
  obtain ⟨a1, a2, a3, a4⟩ := a; obtain ⟨b1, b2, b3, b4⟩ := b
  simp only [depE, List.cons.injEq, V.agg.injEq, V.sl.injEq, true_and, and_true] at h
  rw [Cr.row_inj _ _ h.1, Ai.row_inj _ _ h.2.1, Fl.row_inj _ _ h.2.2.1, mapRow_inj Po.row_inj h.2.2.2]
structure DepP (d : Cr × Ai × Fl × List Po) : Prop where
  r : RoP d.1.r
  l : d.2.2.2.length ≤ 1000000
def st0 : List V := [.nilp, .int .i64 0, .int .i64 0, .int .i64 0, .nil]
def stOf (c : Cr) (a : Ai) (f : Fl) : St := ⟨ncF c a, f⟩
def ndE (c : Cr) (a : Ai) (f : Fl) (l : List Po) : Int := if nsW c a f = 0 then (if 30 < l.length then 2 else if wrN (stOf c a f) po0 l = l.length then 0 else 33) else nsW c a f
def ndA (c : Cr) (a : Ai) (f : Fl) (l : List Po) : Nat := if ndE c a f l = 33 then (if nsW c a f = 0 then wrN (stOf c a f) po0 l else 0) else 0
noncomputable abbrev nepS : PSpec := mkP depE DepP fun d => .tup [.agg (if caE d.1 d.2.1 = 0 then (stOf d.1 d.2.1 d.2.2.1).row else st0), .int .i64 (ndA d.1 d.2.1 d.2.2.1 d.2.2.2 : Nat), .int .i64 (ndE d.1 d.2.1 d.2.2.1 d.2.2.2)]
theorem nsE_dec (c : Cr) (a : Ai) (f : Fl) : decC nsE [.agg c.row, .agg [.int .i64 a.w.lo, .int .i64 a.w.hi, .int .i64 a.t.lo, .int .i64 a.t.hi, .int .i64 a.h.lo, .int .i64 a.h.hi, .int .i64 a.v.lo, .int .i64 a.v.hi], .agg [.int .i64 f.len, .int .i64 f.clr, .int .i64 f.safe, .sl 2 (f.hs.map Hi.row)]] = (c, a, f) := decC_eq nsE_inj (c, a, f)
theorem slp_dec (s : St) (l : List Po) : decC slpE [.agg [.ip 36 [s.x.row] 0 0, .int .i64 s.f.len, .int .i64 s.f.clr, .int .i64 s.f.safe, .sl 2 (s.f.hs.map Hi.row)], .sl 3 (l.map Po.row)] = (s, l) := decC_eq slpE_inj (s, l)
noncomputable abbrev E22 : Env := { P := Tryz.prog, fn := tbl [(42, .pure nsS), (43, .pure wroS)], own := [], key := 2200, nt := 38 }
theorem b22 : PureBody E22 [] Tryz.f22 nepS := by
  refine pb ?_
  rintro ⟨c, a, f, l⟩ ⟨hP, hl⟩
  simp only at hP hl
  have d1 := nsE_dec c a f
  by_cases h1 : caE c a = 0
  case neg =>
    have hw : nsW c a f = caE c a := if_neg h1
    have hE : ndE c a f l = caE c a := by rw [ndE, hw, if_neg h1]
    have hA : ndA c a f l = 0 := by
      unfold ndA; split
      · rw [hw, if_neg h1]
      · rfl
    simp -dsimp [Tryz.f22, E22, Ai.row, Fl.row]
    repeat' (first | omega | (simp -dsimp [E22, ri, cellp, ints, Ai.row, Fl.row, d1, hP, h1, hw, hE, hA, st0]) | (refine Also.intro ?_ fun _ => ?_) | (refine Hold.intro fun _ => ?_) | (refine And.intro ?_ ?_))
  have hs1 : (stOf c a f).x = ncF c a := rfl
  have hs2 : (stOf c a f).f = f := rfl
  by_cases h2 : fdE f = 0
  case neg =>
    have hw : nsW c a f = fdE f := if_pos h1
    have hE : ndE c a f l = fdE f := by rw [ndE, hw, if_neg h2]
    have hA : ndA c a f l = 0 := by
      unfold ndA; split
      · rw [hw, if_neg h2]
      · rfl
    simp -dsimp [Tryz.f22, E22, Ai.row, Fl.row]
    repeat' (first | omega | (simp -dsimp [E22, ri, cellp, ints, Ai.row, Fl.row, St.row, d1, hP, h1, h2, hw, hE, hA, hs1, hs2]) | (refine Also.intro ?_ fun _ => ?_) | (refine Hold.intro fun _ => ?_) | (refine And.intro ?_ ?_))
  have hw : nsW c a f = 0 := (if_pos h1).trans h2
  by_cases h3 : 30 < l.length
  · have hE : ndE c a f l = 2 := by rw [ndE, if_pos hw, if_pos h3]
    have hA : ndA c a f l = 0 := by rw [ndA, hE, if_neg (by decide)]
    have h3' : ((30 : Int) < l.length) = True := eq_true (by omega)
    simp -dsimp [Tryz.f22, E22, Ai.row, Fl.row]
    repeat' (first | omega | (simp -dsimp [E22, ri, cellp, ints, Ai.row, Fl.row, St.row, d1, hP, h1, h2, h3', hw, hE, hA, hs1, hs2]) | (refine Also.intro ?_ fun _ => ?_) | (refine Hold.intro fun _ => ?_) | (refine And.intro ?_ ?_))
  have h3' : ((30 : Int) < l.length) = False := eq_false (by omega)
  have d2 := slp_dec ⟨ncF c a, f⟩ l
  have hq : SlpP (⟨ncF c a, f⟩, l) := ⟨stP_of h1 h2, by simp only; omega⟩
  have hso : stOf c a f = ⟨ncF c a, f⟩ := rfl
  by_cases h4 : wrN ⟨ncF c a, f⟩ po0 l = l.length
  · have hE : ndE c a f l = 0 := by rw [ndE, if_pos hw, if_neg h3, hso, if_pos h4]
    have hA : ndA c a f l = 0 := by rw [ndA, hE, if_neg (by decide)]
    simp -dsimp [Tryz.f22, E22, Ai.row, Fl.row]
    repeat' (first | omega | (simp -dsimp [E22, ri, cellp, ints, Ai.row, Fl.row, St.row, d1, d2, hq, hP, h1, h2, h3', h4, hw, hE, hA, hs1, hs2]) | (refine Also.intro ?_ fun _ => ?_) | (refine Hold.intro fun _ => ?_) | (refine And.intro ?_ ?_))
  · have hE : ndE c a f l = 33 := by rw [ndE, if_pos hw, if_neg h3, hso, if_neg h4]
    have hA : ndA c a f l = wrN ⟨ncF c a, f⟩ po0 l := by rw [ndA, hE, if_pos rfl, if_pos hw]; rfl
    simp -dsimp [Tryz.f22, E22, Ai.row, Fl.row]
    repeat' (first | omega | (simp -dsimp [E22, ri, cellp, ints, Ai.row, Fl.row, St.row, d1, d2, hq, hP, h1, h2, h3', h4, hw, hE, hA, hs1, hs2]) | (refine Also.intro ?_ fun _ => ?_) | (refine Hold.intro fun _ => ?_) | (refine And.intro ?_ ?_))
theorem ok22 : FnOK Tryz.prog 22 (.pure nepS) := pure_fn (E := E22) rfl (.cons ok42 (.cons ok43 .nil)) (ok := []) (fn := Tryz.f22) (by kernel_rfl) (by kernel_rfl) (by kernel_rfl) (by kernel_rfl) rfl (fun _ _ => by simp) b22
theorem rtL_getD (c : Cr) (a : Ai) (e n v : Nat) : (rtL c a e n).getD v 0 = if v < n then rt c a e v else 0 := by
  unfold rtL
  rw [List.getD_eq_getElem?_getD, List.getElem?_map]
  by_cases h : v < n
  · rw [if_pos h, List.getElem?_range h]; rfl
  · rw [if_neg h, List.getElem?_eq_none (by simpa using h)]; rfl
theorem wkL_getD (c : Cr) (a : Ai) (v n d : Nat) : (wkL c a v n).getD d false = if d < n then wkv c a v d else false := by
  unfold wkL
  rw [List.getD_eq_getElem?_getD, List.getElem?_map]
  by_cases h : d < n
  · rw [if_pos h, List.getElem?_range h]; rfl
  · rw [if_neg h, List.getElem?_eq_none (by simpa using h)]; rfl
theorem wksL_getD (c : Cr) (a : Ai) (n v : Nat) : (wksL c a n).getD v [] = if v < n then wkL c a v (c.drop.toNat + 1) else [] := by
  unfold wksL
  rw [List.getD_eq_getElem?_getD, List.getElem?_map]
  by_cases h : v < n
  · rw [if_pos h, List.getElem?_range h]; rfl
  · rw [if_neg h, List.getElem?_eq_none (by simpa using h)]; rfl
theorem bet_of {c : Cr} {a a' : Ai} (F : CaF c a) (hi : AiIn a' a) (f : Fl) : Bet (stOf c a f) (stOf c a' f) := by
  have hc := crI_b F.int
  have hr : ∀ e, e ≤ 1 → ∀ v, rAt (stOf c a f) e v ≤ rAt (stOf c a' f) e v := by
    intro e he v
    have g : ∀ a, rAt (stOf c a f) e v = if v < c.top.toNat + 1 then rt c a e v else 0 := by
      intro a
      rw [← rtL_getD]
      have : e = 0 ∨ e = 1 := by omega
      rcases this with rfl | rfl <;> rfl
    rw [g, g]
    split
    · exact rt_part F hi e (by omega)
    · exact Int.le_refl _
  refine ⟨rfl, rfl, hr 0 (by omega), hr 1 (by omega), fun v d h => ?_⟩
  have g : ∀ a, wkAt (stOf c a f) v d = if v < c.top.toNat + 1 then (if d < c.drop.toNat + 1 then wkv c a v d else false) else false := by
    intro a
    show ((wksL c a (c.top.toNat + 1)).getD v []).getD d false = _
    rw [wksL_getD]
    split
    · exact wkL_getD c a v _ d
    · rfl
  rw [g] at h ⊢
  split at h
  · rename_i h1
    rw [if_pos h1]
    split at h
    · rename_i h2
      rw [if_pos h2]
      exact wk_part F hi (by omega) h
    · cases h
  · cases h
end Go.Sx.Rot
end
section
/- Engine: poses as keys of maps. No conditions. -/
set_option linter.unusedSimpArgs false
set_option linter.unusedSectionVars false
set_option maxRecDepth 100000
namespace Go.Sx.Rot
open Go.Proofs Go.Sx
theorem mpEl_before : mpEl Tryz.prog 166 = some (118, 118) := by kernel_rfl
theorem mpEl_known : mpEl Tryz.prog 142 = some (118, 3) := by kernel_rfl
theorem zMp_po : zMp Tryz.prog 118 = some (false, [0, 0, 0]) := by kernel_rfl
theorem zMp_int : zMp Tryz.prog 3 = some (true, [0]) := by kernel_rfl
theorem cz142 : Tryz.prog.cellsOf 142 = 1 := by kernel_rfl
theorem tk142 : tyOk Tryz.prog 142 = true := by kernel_rfl
theorem ag142 : isAg Tryz.prog 142 = false := by kernel_rfl
theorem by142 : Tryz.prog.bytesOf 142 = 8 := by kernel_rfl
theorem cz166 : Tryz.prog.cellsOf 166 = 1 := by kernel_rfl
theorem tk166 : tyOk Tryz.prog 166 = true := by kernel_rfl
theorem ag166 : isAg Tryz.prog 166 = false := by kernel_rfl
theorem by166 : Tryz.prog.bytesOf 166 = 8 := by kernel_rfl
theorem zz142 : zc Tryz.prog 142 = [V.nilm] := by kernel_rfl
theorem zz166 : zc Tryz.prog 166 = [V.nilm] := by kernel_rfl
theorem key_int {a : Int} (h : -9223372036854775808 ≤ a ∧ a ≤ 9223372036854775807) (d : Nat) : Tryz.prog.keyLits (d + 1) 3 [.int .i64 a] = some [.int .i64 a] := by
  have hu : Tryz.prog.underlying 3 = some (.int .i64) := by kernel_rfl
  have hw : (Lit.int .i64 a).wf = true := by
    have h1 : IntKind.min .i64 = -9223372036854775808 := by decide
    have h2 : IntKind.max .i64 = 9223372036854775807 := by decide
    simp only [Lit.wf, h1, h2, Bool.and_eq_true, decide_eq_true_eq]; exact h
  simp only [Program.keyLits, hu, hw, and_self, if_true]
theorem und_po : ∃ f0 f1 f2, Tryz.prog.underlying 118 = some (.struct #[f0, f1, f2]) ∧ (f0.type = 3 ∧ f0.offset = 0) ∧ (f1.type = 3 ∧ f1.offset = 1) ∧ (f2.type = 3 ∧ f2.offset = 2) ∧ #[f0, f1, f2].all (·.name != "_") = true := by
  have h0 : (match Tryz.prog.underlying 118 with | some (.struct fs) => decide (fs.size = 3) && (fs.all (·.name != "_") && decide ((fs.toList.map fun f => (f.type, f.offset)) = [(3, 0), (3, 1), (3, 2)])) | _ => false) = true := by kernel_rfl
  cases hu : Tryz.prog.underlying 118 with
  | none => rw [hu] at h0; cases h0
  | some T =>
    rw [hu] at h0
    cases T <;> simp only [reduceCtorEq, Bool.false_eq_true] at h0
    rename_i fs
    simp only [Bool.and_eq_true, decide_eq_true_eq] at h0
    obtain ⟨hs, ha, hm⟩ := h0
    obtain ⟨l⟩ := fs
    match l, hs with
    | [f0, f1, f2], _ =>
      simp only [List.map_cons, List.map_nil, List.cons.injEq, Prod.mk.injEq, and_true] at hm
      exact ⟨f0, f1, f2, rfl, hm.1, hm.2.1, hm.2.2, ha⟩
theorem key_some (a b c : Int) (h : kR (a, b, c)) : (keyOf Tryz.prog 118 (.agg #[.int .i64 a, .int .i64 b, .int .i64 c])).isSome = true := by
  obtain ⟨f0, f1, f2, hu, ⟨t0, o0⟩, ⟨t1, o1⟩, ⟨t2, o2⟩, ha⟩ := und_po
  have k1 : Tryz.prog.keyType 118 = true := by kernel_rfl
  have k2 : Tryz.prog.cellsOf 118 = 3 := by kernel_rfl
  have k3 : Tryz.prog.cellsOf 3 = 1 := by kernel_rfl
  have k4 : Tryz.prog.types.size = 192 + 1 := by kernel_rfl
  obtain ⟨h1, h2, h3⟩ := h
  have e1 := key_int h1 192
  have e2 := key_int h2 192
  have e3 := key_int h3 192
  have hk : Tryz.prog.keyLits (Tryz.prog.types.size + 1) 118 [.int .i64 a, .int .i64 b, .int .i64 c] = some [.int .i64 a, .int .i64 b, .int .i64 c] := by
    rw [k4]
    unfold Program.keyLits
    simp only [hu, List.length_cons, List.length_nil, k2, ha, and_self, if_true, List.mapM_cons, List.mapM_nil, t0, t1, t2, o0, o1, o2, k3, List.drop_zero, List.drop_succ_cons, List.take_succ_cons, List.take_zero, e1, e2, e3]
    rfl
  have hf : Value.formed Tryz.prog 118 (.agg #[.int .i64 a, .int .i64 b, .int .i64 c]) = true := by
    simp only [Value.formed, hu, k2]; rfl
  have hc : (Value.agg #[.int .i64 a, .int .i64 b, .int .i64 c]).cells.toList = [.int .i64 a, .int .i64 b, .int .i64 c] := rfl
  unfold keyOf
  simp only [hu, k1, hf, Bool.and_self, if_true, hc, hk, Option.map_some, Option.isSome_some]
theorem kt_po : KT Tryz.prog 118 where
  law := Go.deep_law (m := 10) (by decide) (by kernel_rfl) (by kernel_rfl) (by kernel_rfl)
  key := fun p h => key_some p.1 p.2.1 p.2.2 h
end Go.Sx.Rot
end
section
/- Engine: the search, as the program's map tells it (plain). No conditions. -/
set_option linter.unusedSimpArgs false
set_option linter.unusedSectionVars false
namespace Go.Sx.Rot
open Go.Proofs Go.Sx Go.Sx.Tab
abbrev Ent := (Int × Int × Int) × List Int
def pk (p : Po) : Int × Int × Int := (p.x, p.v, p.h)
def pl (p : Po) : List Int := [p.x, p.v, p.h]
theorem pk_inj {a b : Po} (h : pk a = pk b) : a = b := by
  obtain ⟨a1, a2, a3⟩ := a; obtain ⟨b1, b2, b3⟩ := b
  simp only [pk, Prod.mk.injEq] at h
  obtain ⟨rfl, rfl, rfl⟩ := h; rfl
def esL (L : List (Po × Po)) : List Ent := L.map fun x => (pk x.1, pl x.2)
theorem mlook_esL (q : Po) : ∀ L : List (Po × Po), (mlook (esL L) (pk q)).isSome = kn L q
  | [] => rfl
  | x :: L => by
    have ih := mlook_esL q L
    simp only [esL, List.map_cons, mlook, kn, List.any_cons] at ih ⊢
    by_cases h : pk q = pk x.1
    · rw [if_pos h]
      have := pk_inj h
      subst this
      simp
    · rw [if_neg h]
      have hne : decide (x.1 = q) = false := decide_eq_false (fun e => h (by rw [e]))
      rw [hne, Bool.false_or]
      exact ih
theorem mput_esL {q p : Po} : ∀ {L : List (Po × Po)}, kn L q = false → mput (esL L) (pk q) (pl p) = esL (L ++ [(q, p)])
  | [], _ => rfl
  | x :: L, h => by
    simp only [kn, List.any_cons, Bool.or_eq_false_iff, decide_eq_false_iff_not] at h
    have ih := mput_esL (q := q) (p := p) (L := L) h.2
    simp only [esL, List.map_cons, List.cons_append, mput] at ih ⊢
    rw [if_neg (fun e => h.1 (pk_inj e).symm), ih]
theorem mlook_at_esL : ∀ {L : List (Po × Po)} {k : Nat} {x : Po × Po}, (L.map (·.1)).Nodup → L[k]? = some x → mlook (esL L) (pk x.1) = some (pl x.2)
  | [], _, _, _, h => by simp at h
  | y :: L, 0, x, _, h => by
    simp at h; subst h
    simp [esL, mlook]
  | y :: L, k + 1, x, hn, h => by
    simp only [List.getElem?_cons_succ] at h
    simp only [List.map_cons, List.nodup_cons] at hn
    have hne : ¬ pk x.1 = pk y.1 := fun e => hn.1 (List.mem_map.2 ⟨x, List.mem_of_getElem? h, pk_inj e⟩)
    simp only [esL, List.map_cons, mlook, if_neg hne]
    exact mlook_at_esL hn.2 h
def wyF (s : St) (E : Po → Bool) : Nat → List (Po × Po) → Nat → List (Po × Po)
  | 0, L, _ => L
  | n + 1, L, i => match L[i]? with
    | none => L
    | some x => if E x.1 = true then L else wyF s E n (expK x.1 L (stL s x.1 1)) (i + 1)
def wyL (s : St) (E : Po → Bool) (f : Po) : List (Po × Po) := wyF s E 3732 [(f, f)] 0
theorem nats_len : ∀ (k v : Nat), (nats v k).length = k
  | 0, _ => rfl
  | k + 1, v => by simp [nats, nats_len k]
theorem stL_len {s : St} {p : Po} {e : Nat} (hp : PoP s p) (hd : s.x.c.drop ≤ 3) : (stL s p e).length ≤ 39 := by
  obtain ⟨a1, a2, a3, a4, a5, a6⟩ := hp
  have hr : ∀ v, (stRow s p e v).length ≤ 13 := fun v => by
    unfold stRow stH
    refine Nat.le_trans (List.length_filter_le _ _) ?_
    rw [List.length_map, nats_len]
    have b3 : 0 ≤ loH s p := by unfold loH; split <;> omega
    have b4 : hiH s p e v ≤ 12 := by unfold hiH; split <;> omega
    omega
  have hk : (hiV s p + 1 - loV p).toNat ≤ 3 := by unfold hiV loV; split <;> split <;> omega
  have hg : ∀ (k v : Nat), (stV s p e v k).length ≤ 13 * k := by
    intro k
    induction k with
    | zero => intro v; simp [stV, nats]
    | succ k ih =>
      intro v
      rw [stV_succ, List.length_append]
      have := hr v
      have := ih (v + 1)
      omega
  have := hg (hiV s p + 1 - loV p).toNat (loV p).toNat
  unfold stL
  omega
end Go.Sx.Rot
end
