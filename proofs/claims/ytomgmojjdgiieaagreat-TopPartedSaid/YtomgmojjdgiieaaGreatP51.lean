/- Tops: the law of the parted air. No conditions. -/
import Derived.Test.YtomgmojjdgiieaaGreatP50
set_option linter.unusedSimpArgs false
set_option linter.unusedVariables false
set_option linter.unusedSectionVars false
set_option linter.unusedSimpArgs false
set_option linter.unusedSectionVars false
set_option maxRecDepth 100000
set_option maxHeartbeats 16000000
namespace Go.Sx.Rot
open Go.Proofs Go.Sx Go.Sx.Tab
attribute [local irreducible] HLe
attribute [local simp] hps_app
structure LvD where
  f : Fl
  l : List Po
  n0 : Int
  n1 : Int
  n2 : Int
  deriving Inhabited
def LvD.row (d : LvD) : List V := [.int .i64 d.f.len, .int .i64 d.f.clr, .int .i64 d.f.safe, .sl 2 (d.f.hs.map Hi.row), .sl 3 (d.l.map Po.row), .int .i64 d.n0, .int .i64 d.n1, .int .i64 d.n2]
theorem LvD.row_inj (a b : LvD) (h : a.row = b.row) : a = b := by
  obtain ⟨⟨a1, a2, a3, a4⟩, a5, a6, a7, a8⟩ := a; obtain ⟨⟨b1, b2, b3, b4⟩, b5, b6, b7, b8⟩ := b
  simp only [LvD.row, List.cons.injEq, V.int.injEq, V.sl.injEq, true_and, and_true] at h
  obtain ⟨h1, h2, h3, h4, h5, h6, h7, h8⟩ := h
  rw [h1, h2, h3, mapRow_inj Hi.row_inj h4, mapRow_inj Po.row_inj h5, h6, h7, h8]
@[simp] def lwE (d : Cr × Ai × LvD) : List V := [.agg d.1.row, .agg d.2.1.row, .agg d.2.2.row]
noncomputable abbrev lwS : PSpec := mkP lwE (fun _ => True) fun _ => .bool true
theorem mes_dec : decC (fun _ : Unit => ([] : List V)) [] = () := rfl
theorem cov_dec2 (W T : Sp) (bs : List Bx) : decC covE2 [.sl 2 [[.int .i64 W.lo, .int .i64 W.hi], [.int .i64 T.lo, .int .i64 T.hi]], .sl 1 (bs.map bxV)] = (⟨W, T⟩, bs) := decC_eq covE2_inj (⟨W, T⟩, bs)
theorem cnt_dec (bs : List Bx) : decC bxsE [.sl 1 (bs.map bxV)] = bs := decC_eq bxsE_inj bs
theorem has_dec (c : Cr) (a : Ai) : decC raE [.agg c.r.row, .agg [.int .i64 a.w.lo, .int .i64 a.w.hi, .int .i64 a.t.lo, .int .i64 a.t.hi, .int .i64 a.h.lo, .int .i64 a.h.hi, .int .i64 a.v.lo, .int .i64 a.v.hi]] = caM c a := raE_dec (caM c a)
theorem hasP_dec (c : Cr) (a : Ai) (x : Bx) : decC raE [.agg c.r.row, .agg [.int .i64 x.a.lo, .int .i64 x.a.hi, .int .i64 x.b.lo, .int .i64 x.b.hi, .int .i64 a.h.lo, .int .i64 a.h.hi, .int .i64 a.v.lo, .int .i64 a.v.hi]] = caM c (aiP a x) := raE_dec (caM c (aiP a x))
theorem rts_dec (c : Cr) (a : Ai) : decC rtsE [.agg c.row, .agg [.int .i64 a.w.lo, .int .i64 a.w.hi, .int .i64 a.t.lo, .int .i64 a.t.hi, .int .i64 a.h.lo, .int .i64 a.h.hi, .int .i64 a.v.lo, .int .i64 a.v.hi], .bool true] = (c, a, true) := decC_eq rtsE_inj (c, a, true)
theorem rtsP_dec (c : Cr) (a : Ai) (x : Bx) : decC rtsE [.agg c.row, .agg [.int .i64 x.a.lo, .int .i64 x.a.hi, .int .i64 x.b.lo, .int .i64 x.b.hi, .int .i64 a.h.lo, .int .i64 a.h.hi, .int .i64 a.v.lo, .int .i64 a.v.hi], .bool true] = (c, aiP a x, true) := decC_eq rtsE_inj (c, aiP a x, true)
theorem depP_dec (c : Cr) (a : Ai) (x : Bx) (f : Fl) (l : List Po) : decC depE [.agg c.row, .agg [.int .i64 x.a.lo, .int .i64 x.a.hi, .int .i64 x.b.lo, .int .i64 x.b.hi, .int .i64 a.h.lo, .int .i64 a.h.hi, .int .i64 a.v.lo, .int .i64 a.v.hi], .agg [.int .i64 f.len, .int .i64 f.clr, .int .i64 f.safe, .sl 2 (f.hs.map Hi.row)], .sl 3 (l.map Po.row)] = (c, aiP a x, f, l) := decC_eq depE_inj (c, aiP a x, f, l)
theorem alA_dec' (c : Cr) (a : Ai) (f : Fl) : decC alA [.agg c.row, .agg [.int .i64 a.w.lo, .int .i64 a.w.hi, .int .i64 a.t.lo, .int .i64 a.t.hi, .int .i64 a.h.lo, .int .i64 a.h.hi, .int .i64 a.v.lo, .int .i64 a.v.hi], .agg [.int .i64 f.len, .int .i64 f.clr, .int .i64 f.safe, .sl 2 (f.hs.map Hi.row)]] = (c, a, f) := decC_eq alA_inj (c, a, f)
structure PtO where
  n : Nat
  h : n ≤ 4
structure KO (m : Nat) where
  k : Nat
  h : k ≤ m
def ptV (W T : Sp) (w t : Int) (n : Nat) : V := match n with
  | 0 => .nil
  | k + 1 => .bsl 410 0 (pts W T w t (k + 1)).length
def ptS (W T : Sp) (w t : Int) (n : Nat) : Site := match n with
  | 0 => { base := 0, blks := [] }
  | k + 1 => { base := 0, blks := [{ z := 1, els := (pts W T w t (k + 1)).map bxV, ty := 48 }] }
def ptT (c : Cr) (a : Ai) (f : Fl) (l : List Po) (n0 n1 n2 w t : Int) (n : Nat) : List (Nat × (Bool × V)) :=
  [(10, (true, .int .i64 (n : Nat))), (9, (true, ptV a.w a.t w t n)), (8, (true, .int .i64 t)), (7, (true, .int .i64 w)), (5, (true, .ip 8 [[.int .i64 f.len, .int .i64 f.clr, .int .i64 f.safe, .sl 2 (f.hs.map Hi.row), .sl 3 (l.map Po.row), .int .i64 n0, .int .i64 n1, .int .i64 n2]] 0 0)), (4, (true, .ip 8 [[.int .i64 a.w.lo, .int .i64 a.w.hi, .int .i64 a.t.lo, .int .i64 a.t.hi, .int .i64 a.h.lo, .int .i64 a.h.hi, .int .i64 a.v.lo, .int .i64 a.v.hi]] 0 0)), (3, (true, .ip 33 [c.row] 0 0))]
def ptH (W T : Sp) (w t : Int) (n : Nat) : List (Nat × Site) := [(410, ptS W T w t n), (311, { base := n, blks := [] }), (312, { base := n, blks := [] }), (303, { base := 1, blks := [] }), (304, { base := 1, blks := [] }), (305, { base := 1, blks := [] })]
def ptK : List Nat := [410, 311, 312, 303, 304, 305]
def lpT (c : Cr) (a : Ai) (f : Fl) (l : List Po) (n0 n1 n2 : Int) (bs : List Bx) (b0 : Bool) (e0 : Int) (R : List Int) (k : Nat) : List (Nat × (Bool × V)) :=
  [(25, (true, .int .i64 (k : Nat))), (9, (true, .bsl 410 0 bs.length)), (5, (true, .ip 8 [[.int .i64 f.len, .int .i64 f.clr, .int .i64 f.safe, .sl 2 (f.hs.map Hi.row), .sl 3 (l.map Po.row), .int .i64 n0, .int .i64 n1, .int .i64 n2]] 0 0)), (4, (true, .ip 8 [[.int .i64 a.w.lo, .int .i64 a.w.hi, .int .i64 a.t.lo, .int .i64 a.t.hi, .int .i64 a.h.lo, .int .i64 a.h.hi, .int .i64 a.v.lo, .int .i64 a.v.hi]] 0 0)), (3, (true, .ip 33 [c.row] 0 0)), (19, (true, .bool b0)), (20, (true, .int .i64 e0)), (21, (true, .bptr 321 0 1 0 0)), (23, (true, .sl 1 (R.map ri)))]
def lpH (bs : List Bx) (P : Sp) (k : Nat) : List (Nat × Site) := [(410, { base := 0, blks := [{ z := 1, els := bs.map bxV, ty := 48 }] }), (321, { base := 0, blks := [{ z := 2, els := [[.int .i64 P.lo, .int .i64 P.hi]], ty := 31 }] }), (326, { base := k, blks := [] }), (327, { base := k, blks := [] }), (311, { base := 4, blks := [] }), (312, { base := 4, blks := [] }), (303, { base := 1, blks := [] }), (304, { base := 1, blks := [] }), (305, { base := 1, blks := [] })]
def lqT (c : Cr) (a : Ai) (f : Fl) (l : List Po) (n0 n1 n2 : Int) (bs : List Bx) (b0 : Bool) (e0 : Int) (R R' : List Int) (k v : Nat) : List (Nat × (Bool × V)) :=
  (31, (true, .int .i64 (v : Nat))) :: (29, (true, .sl 1 (R'.map ri))) :: (26, (true, .bptr 326 k 1 0 0)) :: lpT c a f l n0 n1 n2 bs b0 e0 R k
def lqH (a : Ai) (x : Bx) (bs : List Bx) (P : Sp) (k : Nat) : List (Nat × Site) := (326, { base := k, blks := [{ z := 8, els := [[.int .i64 x.a.lo, .int .i64 x.a.hi, .int .i64 x.b.lo, .int .i64 x.b.hi, .int .i64 a.h.lo, .int .i64 a.h.hi, .int .i64 a.v.lo, .int .i64 a.v.hi]], ty := 33 }] }) :: (327, { base := k + 1, blks := [] }) :: lpH bs P k
def lpK : List Nat := [410, 321, 326, 327, 311, 312, 303, 304, 305]
noncomputable abbrev E3 : Env := { P := Tryz.prog, fn := tbl [(4, .pure farcS), (5, .pure alS), (6, .pure mesS), (7, .pure wisS), (8, .pure cv2S), (9, .pure cnS), (10, .pure cleS), (11, .pure HasS), (12, .pure ratS), (13, .pure insS)], own := [500163, 600166, 500263, 600266], key := 300, nt := 285, frz := [(1, [3, 50003, 4, 50004, 5, 50005]), (39, [26, 50026])] }
theorem b3 : PureBody E3 [(3, ([], [[0, 1, 2, 3, 4, 5, 6, 7, 8, 9, 10, 11, 12, 13]])), (8, ([2, 7], [[0, 1, 2, 3, 4, 5, 6, 7, 8, 9, 10, 11, 12, 13]])), (19, ([0, 1, 3, 7], [[0, 1, 2, 3, 4, 5, 6, 7, 8, 9, 10, 11, 12, 13, 14, 15]])), (37, ([], [[0, 1, 2, 3, 4, 5, 6, 7, 8]])), (39, ([0, 1, 3, 7], [[0, 1, 2, 3, 4, 5, 6, 7, 8, 9, 10, 11, 12, 13, 14, 15]]))] Tryz.f3 lwS := by
  refine pb ?_
  rintro ⟨c, a, ⟨f, l, n0, n1, n2⟩⟩ _
  have hcf := cfE_dec c f l
  have hmd := mes_dec
  cases hfar : farC c f l
  case true => as_aux_lemma =>
    simp -dsimp [Tryz.f3, E3, Ai.row, LvD.row]
    repeat' (first | omega | (simp -dsimp [E3, ri, cellp, ints, FreeAt, FoOk, FzOk, Ai.row, LvD.row, hcf, hmd, hfar]) | (refine Also.intro ?_ fun _ => ?_) | (refine Hold.intro fun _ => ?_) | (refine And.intro ?_ ?_))
  have hfar' := hfar
  simp only [farC, Bool.or_eq_false_iff, decide_eq_false_iff_not] at hfar'
  have hro := farR_ro hfar'.1
  have hll : l.length ≤ 40 := by omega
  have hal := alA_dec' c a f
  by_cases hA : alE c a f = 0
  case neg => as_aux_lemma =>
    have hA' : (alE c a f == 0) = false := by simpa using hA
    simp -dsimp [Tryz.f3, E3, Ai.row, LvD.row]
    repeat' (first | omega | (simp -dsimp [E3, ri, cellp, ints, FreeAt, FoOk, FzOk, Ai.row, LvD.row, hcf, hmd, hfar, hal, hro, hA, hA']) | (refine Also.intro ?_ fun _ => ?_) | (refine Hold.intro fun _ => ?_) | (refine And.intro ?_ ?_))
  obtain ⟨hca, hfd⟩ := al_ca hA
  have F := ca_facts hca
  have hw1 := wiE_dec n0 a.w
  have hw2 := wiE_dec n1 a.t
  have hNw := F.w
  have hNt := F.t
  have hbw := hNw
  have hbt := hNt
  rw [spN_eq] at hbw hbt
  simp only [Bool.not_eq_false', decide_eq_true_eq] at hbw hbt
  have hwb := inSp_b (n := n0) (s := a.w) (by omega)
  have htb := inSp_b (n := n1) (s := a.t) (by omega)
  have hpt := pts_part hNw hNt hwb htb
  obtain ⟨w, hw⟩ : ∃ w, inSp n0 a.w = w := ⟨_, rfl⟩
  obtain ⟨t, ht⟩ : ∃ t, inSp n1 a.t = t := ⟨_, rfl⟩
  rw [hw] at hwb hpt
  rw [ht] at htb hpt
  have ww : IntKind.wrap .i64 (w + 1) = w + 1 := wrap_id (by omega) (by omega)
  have wt : IntKind.wrap .i64 (t + 1) = t + 1 := wrap_id (by omega) (by omega)
  simp -dsimp [Tryz.f3, E3, Ai.row, LvD.row]
  repeat' (first | omega | (simp -dsimp [E3, ri, cellp, ints, FreeAt, FoOk, FzOk, Ai.row, LvD.row, hcf, hmd, hfar, hal, hro, hA, hw1, hw2, hNw, hNt, hw, ht]) | (refine Also.intro ?_ fun _ => ?_) | (refine Hold.intro fun _ => ?_) | (refine And.intro ?_ ?_))
  refine awp_loop_t (fun q : PtO => ptT c a f l n0 n1 n2 w t q.n) (fun q => hps (ptH a.w a.t w t q.n) noH) (fun q => 4 - q.n) ⟨0, by omega⟩ ?_ ?_ ?_
  · simp [okAll, okv, ptT, ptV]
  · exact (by (try simp -dsimp only [hpush_noH, hpush_hps, hps_over]); refine hle_key ptK ?_ (by rfl) (by rfl); simp -dsimp [allK, sle_rfl, sle_up, ptK, ptH, ptS]; repeat' (first | (refine And.intro ?_ ?_) | (refine sLe.same ?_ ?_ <;> (simp; done)) | (refine sLe.clear ?_ ?_ <;> (first | (simp; done) | (simp; omega))) | (refine sLe.drop 1 ?_ ?_ ?_ <;> (first | (simp; done) | (simp; omega)))))
  rintro ⟨n, hn⟩
  dsimp only
  have hnr : n = 4 ∨ n = 0 ∨ n = 1 ∨ n = 2 ∨ n = 3 := by omega
  rcases hnr with rfl | rfl | rfl | rfl | rfl
  case inl =>
    obtain ⟨bs, hbs⟩ : ∃ bs, pts a.w a.t w t 4 = bs := ⟨_, rfl⟩
    have hV : ptV a.w a.t w t 4 = .bsl 410 0 bs.length := by rw [← hbs]; rfl
    have hS : ptS a.w a.t w t 4 = { base := 0, blks := [{ z := 1, els := bs.map bxV, ty := 48 }] } := by rw [← hbs]; rfl
    rw [hbs] at hpt
    obtain ⟨hcv, hcn, har, hins⟩ := hpt
    have hbl := hcn.n
    have hpa : ∀ x ∈ bs, PaF c a (aiP a x) f l := fun x hx => part_of hA (ai_in (hins x hx))
    clear hins hbs hw1 hw2 hw ht ww wt hwb htb
    have dcv := cov_dec2 a.w a.t bs
    have dcn := cnt_dec bs
    have u1 : IntKind.wrap .i64 (a.w.hi - a.w.lo) = a.w.hi - a.w.lo := wrap_id (by omega) (by omega)
    have u2 : IntKind.wrap .i64 (a.w.hi - a.w.lo + 1) = spW a.w := wrap_id (by omega) (by omega)
    have u3 : IntKind.wrap .i64 (a.t.hi - a.t.lo) = a.t.hi - a.t.lo := wrap_id (by omega) (by omega)
    have u4 : IntKind.wrap .i64 (a.t.hi - a.t.lo + 1) = spW a.t := wrap_id (by omega) (by omega)
    have u5 : IntKind.wrap .i64 (spW a.w * spW a.t) = arS bs := by
      have k1 := spW_b hNw
      have k2 := spW_b hNt
      have k3 : spW a.w * spW a.t ≤ 2000001 * 2000001 := Int.mul_le_mul k1.2 k2.2 (by omega) (by omega)
      have k4 : 0 ≤ spW a.w * spW a.t := Int.mul_nonneg (by omega) (by omega)
      rw [har]; exact wrap_id (by omega) (by omega)
    obtain ⟨A, hA1⟩ : ∃ A, arS bs = A := ⟨_, rfl⟩
    rw [hA1] at u5
    clear har
    have hdd := dep_dec c a f l
    have hdp : DepP (c, a, f, l) := ⟨hro, by simp only; omega⟩
    have hb24 : l.length * 24 ≤ 140737488355328 := by omega
    have hck := ck_has0 F
    have hrm : RoP (caM c a).r := hro
    have hdh := has_dec c a
    have hdr := rts_dec c a
    have hpa1 : ∀ x ∈ bs, (bndF (powD (caM c a))).lo ≤ (bndF (powD (caM c (aiP a x)))).lo ∧ (bndF (powD (caM c (aiP a x)))).hi ≤ (bndF (powD (caM c a))).hi := fun x hx => ⟨(hpa x hx).lo, (hpa x hx).hi⟩
    have hpa2 : ∀ x ∈ bs, (ncF c (aiP a x)).r1.length = (ncF c a).r1.length ∧ ∀ (v : Nat) (y z : Int), (ncF c a).r1[v]? = some y → (ncF c (aiP a x)).r1[v]? = some z → y ≤ z := fun x hx => ⟨(hpa x hx).n, (hpa x hx).rt⟩
    have hpa3 : ∀ x ∈ bs, ndE c a f l = 0 → clB c a f l = true → ndE c (aiP a x) f l = 0 ∧ clB c (aiP a x) f l = true := fun x hx => (hpa x hx).cl
    have hpa4 : ∀ x ∈ bs, caE c (aiP a x) = 0 ∧ ckE (caM c (aiP a x)) .has = 0 := fun x hx => ⟨(hpa x hx).ca, (hpa x hx).hs⟩
    clear hpa
    obtain ⟨P, hPe⟩ : ∃ P, bndF (powD (caM c a)) = P := ⟨_, rfl⟩
    simp only [hPe] at hpa1
    have hRl : (ncF c a).r1.length ≤ 1000000 := by
      have := crI_b F.int
      simp only [ncF, rtL_len]; omega
    obtain ⟨R, hRe⟩ : ∃ R, (ncF c a).r1 = R := ⟨_, rfl⟩
    rw [hRe] at hRl
    simp only [hRe] at hpa2
    obtain ⟨e0, he0⟩ : ∃ x, ndE c a f l = x := ⟨_, rfl⟩
    obtain ⟨b0, hb0⟩ : ∃ x, clB c a f l = x := ⟨_, rfl⟩
    simp only [he0, hb0] at hpa3
    have cm1 : (caM c a).r = c.r := rfl
    have cm2 : (caM c a).a = a := rfl
    simp -dsimp [ptT, ptH, hV, hS]
    repeat' (first | omega | (simp -dsimp [E3, ri, cellp, ints, FreeAt, FoOk, FzOk, Ai.row, LvD.row, Sp.row, dcv, dcn, hcv, hcn, u1, u2, u3, u4, u5, hdd, hdp, hb24, hck, hrm, hdh, hdr, hro, hca, hA1, hPe, hRe, he0, hb0, cm1, cm2, Fl.row]) | (refine Also.intro ?_ fun _ => ?_) | (refine Hold.intro fun _ => ?_) | (refine And.intro ?_ ?_))
    refine awp_loop_t (fun k : KO bs.length => lpT c a f l n0 n1 n2 bs b0 e0 R k.k) (fun k => hps (lpH bs P k.k) noH) (fun k => bs.length - k.k) ⟨0, by omega⟩ ?_ ?_ ?_
    · simp [okAll, okv, lpT]
    · exact (by (try simp -dsimp only [hpush_noH, hpush_hps, hps_over]); refine hle_key lpK ?_ (by rfl) (by rfl); simp -dsimp [allK, sle_rfl, sle_up, lpK, lpH]; repeat' (first | (refine And.intro ?_ ?_) | (refine sLe.same ?_ ?_ <;> (simp; done)) | (refine sLe.clear ?_ ?_ <;> (first | (simp; done) | (simp; omega))) | (refine sLe.drop 1 ?_ ?_ ?_ <;> (first | (simp; done) | (simp; omega)))))
    clear hcv hcn dcv dcn u1 u2 u3 u4 u5 hV hS hdd hdp hck hdh hdr hA1 hPe hRe he0 hb0
    rintro ⟨k, hk⟩
    dsimp only
    by_cases hk1 : k < bs.length
    case neg => as_aux_lemma =>
      have hkn : ((k : Int) < bs.length) = False := eq_false (by omega)
      simp -dsimp [lpT, lpH, hkn]
      repeat' (first | omega | (simp -dsimp [E3, ri, cellp, ints, hkn, hmd]) | (refine Also.intro ?_ fun _ => ?_) | (refine Hold.intro fun _ => ?_) | (refine And.intro ?_ ?_))
    have hki : ((k : Int) < bs.length) = True := eq_true (by omega)
    have hki' : (k < bs.length) = True := eq_true hk1
    have wk : IntKind.wrap .i64 ((k : Int) + 1) = (k + 1 : Nat) := wrap_id (by omega) (by omega)
    obtain ⟨x, hx⟩ : ∃ x, bs[k]? = some x := ⟨_, List.getElem?_eq_getElem hk1⟩
    have hx' : bs[k] = x := (List.getElem?_eq_some_iff.1 hx).2
    have hxm := List.mem_of_getElem? hx
    have hp1 := hpa1 x hxm
    have hp2 := hpa2 x hxm
    have hp3 := hpa3 x hxm
    obtain ⟨hca', hck'⟩ := hpa4 x hxm
    clear hpa1 hpa2 hpa3 hpa4
    have ddh := hasP_dec c a x
    have ddr := rtsP_dec c a x
    have ddd := depP_dec c a x f l
    have hdp : DepP (c, aiP a x, f, l) := ⟨hro, by simp only; omega⟩
    have hrm' : RoP (caM c (aiP a x)).r := hro
    have cm1' : (caM c (aiP a x)).r = c.r := rfl
    have cm2' : (caM c (aiP a x)).a = aiP a x := rfl
    have ap1 : (aiP a x).w = x.a := rfl
    have ap2 : (aiP a x).t = x.b := rfl
    have ap3 : (aiP a x).h = a.h := rfl
    have ap4 : (aiP a x).v = a.v := rfl
    obtain ⟨P', hPe'⟩ : ∃ P', bndF (powD (caM c (aiP a x))) = P' := ⟨_, rfl⟩
    obtain ⟨R', hRe'⟩ : ∃ R', (ncF c (aiP a x)).r1 = R' := ⟨_, rfl⟩
    obtain ⟨e1, he1⟩ : ∃ y, ndE c (aiP a x) f l = y := ⟨_, rfl⟩
    obtain ⟨b1, hb1⟩ : ∃ y, clB c (aiP a x) f l = y := ⟨_, rfl⟩
    rw [hPe'] at hp1
    rw [hRe'] at hp2
    rw [he1, hb1] at hp3
    have hss := ssE_dec P' P
    have hq1 : (P.lo ≤ P'.lo) = True := eq_true hp1.1
    have hq2 : (P'.hi ≤ P.hi) = True := eq_true hp1.2
    have hRn := hp2.1
    simp -dsimp [lpT, lpH, hki]
    repeat' (first | omega | (simp -dsimp [E3, ri, cellp, ints, hki, hki', hx, hx', Ai.row, LvD.row, Sp.row, bxV, ddh, ddr, hrm', cm1', cm2', ap1, ap2, ap3, ap4, hro, hca', hck', hPe', hRe', hss, hq1, hq2, hRn]) | (refine Also.intro ?_ fun _ => ?_) | (refine Hold.intro fun _ => ?_) | (refine And.intro ?_ ?_))
    refine awp_loop_t (fun v : KO R.length => lqT c a f l n0 n1 n2 bs b0 e0 R R' k v.k) (fun v => hps (lqH a x bs P k) noH) (fun v => R.length - v.k) ⟨0, by omega⟩ ?_ ?_ ?_
    · simp [okAll, okv, lqT, lpT]
    · exact (by (try simp -dsimp only [hpush_noH, hpush_hps, hps_over]); refine hle_key lpK ?_ (by rfl) (by rfl); simp -dsimp [allK, sle_rfl, sle_up, lpK, lqH, lpH]; repeat' (first | (refine And.intro ?_ ?_) | (refine sLe.same ?_ ?_ <;> (simp; done)) | (refine sLe.clear ?_ ?_ <;> (first | (simp; done) | (simp; omega))) | (refine sLe.drop 1 ?_ ?_ ?_ <;> (first | (simp; done) | (simp; omega)))))
    rintro ⟨v, hv⟩
    dsimp only
    by_cases hv1 : v < R.length
    case pos => as_aux_lemma =>
      have hvi : ((v : Int) < R.length) = True := eq_true (by omega)
      have hvi' : (v < R.length) = True := eq_true hv1
      have hv2 : v < R'.length := by omega
      have hv2' : (v < R'.length) = True := eq_true hv2
      have wv : IntKind.wrap .i64 ((v : Int) + 1) = (v + 1 : Nat) := wrap_id (by omega) (by omega)
      obtain ⟨y, hy⟩ : ∃ y, R[v]? = some y := ⟨_, List.getElem?_eq_getElem hv1⟩
      have hy' : R[v] = y := (List.getElem?_eq_some_iff.1 hy).2
      obtain ⟨z, hz⟩ : ∃ z, R'[v]? = some z := ⟨_, List.getElem?_eq_getElem hv2⟩
      have hz' : R'[v] = z := (List.getElem?_eq_some_iff.1 hz).2
      have hyz : (z < y) = False := eq_false (by have := hp2.2 v y z hy hz; omega)
      simp -dsimp [lqT, lpT, lqH, lpH, hvi]
      repeat' (first | omega | (simp -dsimp [E3, ri, cellp, ints, hvi, hvi', hv2', hRn, hy, hy', hz, hz', hyz, wv]) | (refine Also.intro ?_ fun _ => ?_) | (refine Hold.intro fun _ => ?_) | (refine And.intro ?_ ?_))
      refine ⟨⟨v + 1, by omega⟩, ?_, HLe.refl _, by simp only; omega⟩
      simp [okAll, okv, lqT, lpT, wv]
    have hvn : ((v : Int) < R.length) = False := eq_false (by omega)
    clear hp2 hp1
    have fin : (e0 = 0 ∧ b0 = true ∧ e1 = 0 ∧ b1 = true) ∨ (e0 = 0 ∧ b0 = false) ∨ (e0 == 0) = false := by
      by_cases h0 : e0 = 0
      · cases hb : b0
        · exact .inr (.inl ⟨h0, rfl⟩)
        · exact .inl ⟨h0, rfl, hp3 h0 hb⟩
      · exact .inr (.inr (by simpa using h0))
    clear hp3
    rcases fin with ⟨rfl, rfl, rfl, rfl⟩ | ⟨rfl, rfl⟩ | h0
    all_goals
      as_aux_lemma =>
      simp -dsimp [lqT, lpT, lqH, lpH, hvn]
      repeat' (first | omega | (simp -dsimp [E3, ri, cellp, ints, FreeAt, FoOk, FzOk, hvn, Ai.row, LvD.row, Fl.row, Sp.row, ddd, hdp, hb24, ap1, ap2, ap3, ap4, he1, hb1, wk, *]) | (refine Also.intro ?_ fun _ => ?_) | (refine Hold.intro fun _ => ?_) | (refine And.intro ?_ ?_))
      refine ⟨⟨k + 1, by omega⟩, ?_, (by (try simp -dsimp only [hpush_noH, hpush_hps, hps_over]); refine hle_key lpK ?_ (by rfl) (by rfl); simp -dsimp [allK, sle_rfl, sle_up, lpK, lqH, lpH]; repeat' (first | (refine And.intro ?_ ?_) | (refine sLe.same ?_ ?_ <;> (simp; done)) | (refine sLe.clear ?_ ?_ <;> (first | (simp; done) | (simp; omega))) | (refine sLe.drop 1 ?_ ?_ ?_ <;> (first | (simp; done) | (simp; omega))))), by simp only; omega⟩
      simp [okAll, okv, lpT, wk]
  case inr.inl => as_aux_lemma =>
    have hcd : cand a.w a.t w t 0 = ⟨⟨a.w.lo, w⟩, ⟨a.t.lo, t⟩⟩ := rfl
    have hP : pts a.w a.t w t (0 + 1) = pts a.w a.t w t 0 ++ if candOk (cand a.w a.t w t 0) = true then [cand a.w a.t w t 0] else [] := rfl
    rw [hcd] at hP
    have wn : IntKind.wrap .i64 ((0 : Int) + 1) = 1 := wrap_id (by omega) (by omega)
    have wn' : IntKind.wrap .i64 (1 : Int) = 1 := wrap_id (by omega) (by omega)
    have tm : (0 : Int).tmod 2 = 0 := rfl
    have h1' : (a.w.lo ≤ w) = True := eq_true hwb.1
    have h2' : (a.t.lo ≤ t) = True := eq_true htb.1
    have hk : candOk ⟨⟨a.w.lo, w⟩, ⟨a.t.lo, t⟩⟩ = true := by simp [candOk, hwb.1, htb.1]
    have hP : pts a.w a.t w t 1 = [⟨⟨a.w.lo, w⟩, ⟨a.t.lo, t⟩⟩] := by simp only [pts, hcd, hk, if_true, List.nil_append]
    simp -dsimp [ptT, ptV, ptH, ptS]
    repeat' (first | omega | (simp -dsimp [E3, ri, cellp, ints, FreeAt, FoOk, FzOk, Ai.row, LvD.row, bxV, Sp.row, hcd, wn, wn', tm, ww, wt, h1', h2']) | (refine Also.intro ?_ fun _ => ?_) | (refine Hold.intro fun _ => ?_) | (refine And.intro ?_ ?_))
    refine ⟨⟨1, by omega⟩, ?_, (by (try simp -dsimp only [hpush_noH, hpush_hps, hps_over]); refine hle_key ptK ?_ (by rfl) (by rfl); simp -dsimp [allK, sle_rfl, sle_up, ptK, ptH, ptS, hP, bxV, Sp.row]; repeat' (first | (refine And.intro ?_ ?_) | (refine sLe.same ?_ ?_ <;> (simp; done)) | (refine sLe.clear ?_ ?_ <;> (first | (simp; done) | (simp; omega))) | (refine sLe.drop 1 ?_ ?_ ?_ <;> (first | (simp; done) | (simp; omega))))), by simp⟩
    simp [okAll, okv, ptT, ptV, hP, wn, wn']
  case inr.inr.inl => as_aux_lemma =>
    have hcd : cand a.w a.t w t 1 = ⟨⟨w + 1, a.w.hi⟩, ⟨a.t.lo, t⟩⟩ := rfl
    have hP : pts a.w a.t w t (1 + 1) = pts a.w a.t w t 1 ++ if candOk (cand a.w a.t w t 1) = true then [cand a.w a.t w t 1] else [] := rfl
    rw [hcd] at hP
    have wn : IntKind.wrap .i64 ((1 : Int) + 1) = 2 := wrap_id (by omega) (by omega)
    have wn' : IntKind.wrap .i64 (2 : Int) = 2 := wrap_id (by omega) (by omega)
    have tm : (1 : Int).tmod 2 = 1 := rfl
    by_cases h1 : w + 1 ≤ a.w.hi
    case neg =>
      have hk : candOk ⟨⟨w + 1, a.w.hi⟩, ⟨a.t.lo, t⟩⟩ = false := by simp [candOk, h1]
      rw [hk] at hP
      simp only [Bool.false_eq_true, if_false, List.append_nil] at hP
      have h1' : (w + 1 ≤ a.w.hi) = False := eq_false h1
      simp -dsimp [ptT, ptV, ptH, ptS]
      repeat' (first | omega | (simp -dsimp [E3, ri, cellp, ints, FreeAt, FoOk, FzOk, Ai.row, LvD.row, bxV, Sp.row, hcd, wn, wn', tm, ww, wt, h1']) | (refine Also.intro ?_ fun _ => ?_) | (refine Hold.intro fun _ => ?_) | (refine And.intro ?_ ?_))
      refine ⟨⟨2, by omega⟩, ?_, (by (try simp -dsimp only [hpush_noH, hpush_hps, hps_over]); refine hle_key ptK ?_ (by rfl) (by rfl); simp -dsimp [allK, sle_rfl, sle_up, ptK, ptH, ptS, hP, bxV, Sp.row]; repeat' (first | (refine And.intro ?_ ?_) | (refine sLe.same ?_ ?_ <;> (simp; done)) | (refine sLe.clear ?_ ?_ <;> (first | (simp; done) | (simp; omega))) | (refine sLe.drop 1 ?_ ?_ ?_ <;> (first | (simp; done) | (simp; omega))))), by simp⟩
      simp [okAll, okv, ptT, ptV, hP, wn, wn']
    have h1' : (w + 1 ≤ a.w.hi) = True := eq_true h1
    by_cases h2 : a.t.lo ≤ t
    case neg =>
      exact absurd htb.1 h2
    have h2' : (a.t.lo ≤ t) = True := eq_true h2
    have hk : candOk ⟨⟨w + 1, a.w.hi⟩, ⟨a.t.lo, t⟩⟩ = true := by simp [candOk, h1, h2]
    rw [hk] at hP
    simp only [if_true] at hP
    have hpl := pts_len (W := a.w) (T := a.t) (w := w) (t := t) 1
    simp -dsimp [ptT, ptV, ptH, ptS]
    repeat' (first | omega | (simp -dsimp [E3, ri, cellp, ints, FreeAt, FoOk, FzOk, Ai.row, LvD.row, bxV, Sp.row, hcd, wn, wn', tm, ww, wt, h1', h2']) | (refine Also.intro ?_ fun _ => ?_) | (refine Hold.intro fun _ => ?_) | (refine And.intro ?_ ?_))
    refine ⟨⟨2, by omega⟩, ?_, (by (try simp -dsimp only [hpush_noH, hpush_hps, hps_over]); refine hle_key ptK ?_ (by rfl) (by rfl); simp -dsimp [allK, sle_rfl, sle_up, ptK, ptH, ptS, hP, bxV, Sp.row]; repeat' (first | (refine And.intro ?_ ?_) | (refine sLe.same ?_ ?_ <;> (simp; done)) | (refine sLe.clear ?_ ?_ <;> (first | (simp; done) | (simp; omega))) | (refine sLe.drop 1 ?_ ?_ ?_ <;> (first | (simp; done) | (simp; omega))))), by simp⟩
    simp [okAll, okv, ptT, ptV, hP, wn, wn']
  case inr.inr.inr.inl => as_aux_lemma =>
    have hcd : cand a.w a.t w t 2 = ⟨⟨a.w.lo, w⟩, ⟨t + 1, a.t.hi⟩⟩ := rfl
    have hP : pts a.w a.t w t (2 + 1) = pts a.w a.t w t 2 ++ if candOk (cand a.w a.t w t 2) = true then [cand a.w a.t w t 2] else [] := rfl
    rw [hcd] at hP
    have wn : IntKind.wrap .i64 ((2 : Int) + 1) = 3 := wrap_id (by omega) (by omega)
    have wn' : IntKind.wrap .i64 (3 : Int) = 3 := wrap_id (by omega) (by omega)
    have tm : (2 : Int).tmod 2 = 0 := rfl
    by_cases h1 : a.w.lo ≤ w
    case neg =>
      exact absurd hwb.1 h1
    have h1' : (a.w.lo ≤ w) = True := eq_true h1
    by_cases h2 : t + 1 ≤ a.t.hi
    case neg =>
      have hk : candOk ⟨⟨a.w.lo, w⟩, ⟨t + 1, a.t.hi⟩⟩ = false := by simp [candOk, h2]
      rw [hk] at hP
      simp only [Bool.false_eq_true, if_false, List.append_nil] at hP
      have h2' : (t + 1 ≤ a.t.hi) = False := eq_false h2
      simp -dsimp [ptT, ptV, ptH, ptS]
      repeat' (first | omega | (simp -dsimp [E3, ri, cellp, ints, FreeAt, FoOk, FzOk, Ai.row, LvD.row, bxV, Sp.row, hcd, wn, wn', tm, ww, wt, h1', h2']) | (refine Also.intro ?_ fun _ => ?_) | (refine Hold.intro fun _ => ?_) | (refine And.intro ?_ ?_))
      refine ⟨⟨3, by omega⟩, ?_, (by (try simp -dsimp only [hpush_noH, hpush_hps, hps_over]); refine hle_key ptK ?_ (by rfl) (by rfl); simp -dsimp [allK, sle_rfl, sle_up, ptK, ptH, ptS, hP, bxV, Sp.row]; repeat' (first | (refine And.intro ?_ ?_) | (refine sLe.same ?_ ?_ <;> (simp; done)) | (refine sLe.clear ?_ ?_ <;> (first | (simp; done) | (simp; omega))) | (refine sLe.drop 1 ?_ ?_ ?_ <;> (first | (simp; done) | (simp; omega))))), by simp⟩
      simp [okAll, okv, ptT, ptV, hP, wn, wn']
    have h2' : (t + 1 ≤ a.t.hi) = True := eq_true h2
    have hk : candOk ⟨⟨a.w.lo, w⟩, ⟨t + 1, a.t.hi⟩⟩ = true := by simp [candOk, h1, h2]
    rw [hk] at hP
    simp only [if_true] at hP
    have hpl := pts_len (W := a.w) (T := a.t) (w := w) (t := t) 2
    simp -dsimp [ptT, ptV, ptH, ptS]
    repeat' (first | omega | (simp -dsimp [E3, ri, cellp, ints, FreeAt, FoOk, FzOk, Ai.row, LvD.row, bxV, Sp.row, hcd, wn, wn', tm, ww, wt, h1', h2']) | (refine Also.intro ?_ fun _ => ?_) | (refine Hold.intro fun _ => ?_) | (refine And.intro ?_ ?_))
    refine ⟨⟨3, by omega⟩, ?_, (by (try simp -dsimp only [hpush_noH, hpush_hps, hps_over]); refine hle_key ptK ?_ (by rfl) (by rfl); simp -dsimp [allK, sle_rfl, sle_up, ptK, ptH, ptS, hP, bxV, Sp.row]; repeat' (first | (refine And.intro ?_ ?_) | (refine sLe.same ?_ ?_ <;> (simp; done)) | (refine sLe.clear ?_ ?_ <;> (first | (simp; done) | (simp; omega))) | (refine sLe.drop 1 ?_ ?_ ?_ <;> (first | (simp; done) | (simp; omega))))), by simp⟩
    simp [okAll, okv, ptT, ptV, hP, wn, wn']
  case inr.inr.inr.inr => as_aux_lemma =>
    have hcd : cand a.w a.t w t 3 = ⟨⟨w + 1, a.w.hi⟩, ⟨t + 1, a.t.hi⟩⟩ := rfl
    have hP : pts a.w a.t w t (3 + 1) = pts a.w a.t w t 3 ++ if candOk (cand a.w a.t w t 3) = true then [cand a.w a.t w t 3] else [] := rfl
    rw [hcd] at hP
    have wn : IntKind.wrap .i64 ((3 : Int) + 1) = 4 := wrap_id (by omega) (by omega)
    have wn' : IntKind.wrap .i64 (4 : Int) = 4 := wrap_id (by omega) (by omega)
    have tm : (3 : Int).tmod 2 = 1 := rfl
    by_cases h1 : w + 1 ≤ a.w.hi
    case neg =>
      have hk : candOk ⟨⟨w + 1, a.w.hi⟩, ⟨t + 1, a.t.hi⟩⟩ = false := by simp [candOk, h1]
      rw [hk] at hP
      simp only [Bool.false_eq_true, if_false, List.append_nil] at hP
      have h1' : (w + 1 ≤ a.w.hi) = False := eq_false h1
      simp -dsimp [ptT, ptV, ptH, ptS]
      repeat' (first | omega | (simp -dsimp [E3, ri, cellp, ints, FreeAt, FoOk, FzOk, Ai.row, LvD.row, bxV, Sp.row, hcd, wn, wn', tm, ww, wt, h1']) | (refine Also.intro ?_ fun _ => ?_) | (refine Hold.intro fun _ => ?_) | (refine And.intro ?_ ?_))
      refine ⟨⟨4, by omega⟩, ?_, (by (try simp -dsimp only [hpush_noH, hpush_hps, hps_over]); refine hle_key ptK ?_ (by rfl) (by rfl); simp -dsimp [allK, sle_rfl, sle_up, ptK, ptH, ptS, hP, bxV, Sp.row]; repeat' (first | (refine And.intro ?_ ?_) | (refine sLe.same ?_ ?_ <;> (simp; done)) | (refine sLe.clear ?_ ?_ <;> (first | (simp; done) | (simp; omega))) | (refine sLe.drop 1 ?_ ?_ ?_ <;> (first | (simp; done) | (simp; omega))))), by simp⟩
      simp [okAll, okv, ptT, ptV, hP, wn, wn']
    have h1' : (w + 1 ≤ a.w.hi) = True := eq_true h1
    by_cases h2 : t + 1 ≤ a.t.hi
    case neg =>
      have hk : candOk ⟨⟨w + 1, a.w.hi⟩, ⟨t + 1, a.t.hi⟩⟩ = false := by simp [candOk, h2]
      rw [hk] at hP
      simp only [Bool.false_eq_true, if_false, List.append_nil] at hP
      have h2' : (t + 1 ≤ a.t.hi) = False := eq_false h2
      simp -dsimp [ptT, ptV, ptH, ptS]
      repeat' (first | omega | (simp -dsimp [E3, ri, cellp, ints, FreeAt, FoOk, FzOk, Ai.row, LvD.row, bxV, Sp.row, hcd, wn, wn', tm, ww, wt, h1', h2']) | (refine Also.intro ?_ fun _ => ?_) | (refine Hold.intro fun _ => ?_) | (refine And.intro ?_ ?_))
      refine ⟨⟨4, by omega⟩, ?_, (by (try simp -dsimp only [hpush_noH, hpush_hps, hps_over]); refine hle_key ptK ?_ (by rfl) (by rfl); simp -dsimp [allK, sle_rfl, sle_up, ptK, ptH, ptS, hP, bxV, Sp.row]; repeat' (first | (refine And.intro ?_ ?_) | (refine sLe.same ?_ ?_ <;> (simp; done)) | (refine sLe.clear ?_ ?_ <;> (first | (simp; done) | (simp; omega))) | (refine sLe.drop 1 ?_ ?_ ?_ <;> (first | (simp; done) | (simp; omega))))), by simp⟩
      simp [okAll, okv, ptT, ptV, hP, wn, wn']
    have h2' : (t + 1 ≤ a.t.hi) = True := eq_true h2
    have hk : candOk ⟨⟨w + 1, a.w.hi⟩, ⟨t + 1, a.t.hi⟩⟩ = true := by simp [candOk, h1, h2]
    rw [hk] at hP
    simp only [if_true] at hP
    have hpl := pts_len (W := a.w) (T := a.t) (w := w) (t := t) 3
    simp -dsimp [ptT, ptV, ptH, ptS]
    repeat' (first | omega | (simp -dsimp [E3, ri, cellp, ints, FreeAt, FoOk, FzOk, Ai.row, LvD.row, bxV, Sp.row, hcd, wn, wn', tm, ww, wt, h1', h2']) | (refine Also.intro ?_ fun _ => ?_) | (refine Hold.intro fun _ => ?_) | (refine And.intro ?_ ?_))
    refine ⟨⟨4, by omega⟩, ?_, (by (try simp -dsimp only [hpush_noH, hpush_hps, hps_over]); refine hle_key ptK ?_ (by rfl) (by rfl); simp -dsimp [allK, sle_rfl, sle_up, ptK, ptH, ptS, hP, bxV, Sp.row]; repeat' (first | (refine And.intro ?_ ?_) | (refine sLe.same ?_ ?_ <;> (simp; done)) | (refine sLe.clear ?_ ?_ <;> (first | (simp; done) | (simp; omega))) | (refine sLe.drop 1 ?_ ?_ ?_ <;> (first | (simp; done) | (simp; omega))))), by simp⟩
    simp [okAll, okv, ptT, ptV, hP, wn, wn']
theorem ok3 : FnOK Tryz.prog 3 (.pure lwS) := pure_fn (E := E3) rfl (.cons ok4 (.cons ok5 (.cons ok6 (.cons ok7 (.cons ok8 (.cons ok9 (.cons ok10 (.cons ok11 (.cons ok12 (.cons ok13 .nil)))))))))) (ok := [(3, ([], [[0, 1, 2, 3, 4, 5, 6, 7, 8, 9, 10, 11, 12, 13]])), (8, ([2, 7], [[0, 1, 2, 3, 4, 5, 6, 7, 8, 9, 10, 11, 12, 13]])), (19, ([0, 1, 3, 7], [[0, 1, 2, 3, 4, 5, 6, 7, 8, 9, 10, 11, 12, 13, 14, 15]])), (37, ([], [[0, 1, 2, 3, 4, 5, 6, 7, 8]])), (39, ([0, 1, 3, 7], [[0, 1, 2, 3, 4, 5, 6, 7, 8, 9, 10, 11, 12, 13, 14, 15]]))]) (fn := Tryz.f3) (by kernel_rfl) (by kernel_rfl) (by kernel_rfl) (by kernel_rfl) rfl (fun _ _ => by simp) b3
end Go.Sx.Rot
