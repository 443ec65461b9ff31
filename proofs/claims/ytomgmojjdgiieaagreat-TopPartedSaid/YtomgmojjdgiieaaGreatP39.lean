/- Engine: the steps from a pose, as they are yielded. No conditions. -/
import Derived.Test.YtomgmojjdgiieaaGreatP38
set_option linter.unusedSimpArgs false
set_option linter.unusedVariables false
set_option linter.unusedSectionVars false
set_option linter.unusedSimpArgs false
set_option linter.unusedSectionVars false
set_option maxRecDepth 100000
set_option maxHeartbeats 16000000
namespace Go.Sx.Rot
open Go.Proofs Go.Sx Go.Sx.Tab
attribute [local irreducible] HLe
attribute [local simp] hps_app
def nats : Nat → Nat → List Nat
  | _, 0 => []
  | v, k + 1 => v :: nats (v + 1) k
def CX.re (x : CX) (e : Nat) : List Int := if e = 0 then x.r0 else x.r1
def rAt (s : St) (e v : Nat) : Int := (s.x.re e).getD v 0
def wkAt (s : St) (v d : Nat) : Bool := (s.x.wk.getD v []).getD d false
def loH (s : St) (p : Po) : Int := if s.x.c.drop < p.h then p.h - s.x.c.drop else 0
def hiH (s : St) (p : Po) (e v : Nat) : Int := if p.h + rAt s e v < 12 then p.h + rAt s e v else 12
def loV (p : Po) : Int := if 1 < p.v then p.v - 1 else 0
def hiV (s : St) (p : Po) : Int := if p.v + 1 < s.x.c.top then p.v + 1 else s.x.c.top
def endsB (s : St) (p q : Po) : Bool := decide (q.h = 0) && (decide (p.h = 0) || (decide (s.x.c.sink < p.h) || !downB s q))
def sinkB (s : St) (p q : Po) : Bool := decide (0 < q.h) && (decide (q.h < p.h) && wkAt s q.v.toNat (p.h - q.h).toNat)
def stOk (s : St) (p q : Po) : Bool := decide (q.x ≤ 40) && (!endsB s p q && (!sinkB s p q && clrB s p q))
def stQ (p : Po) (v h : Nat) : Po := ⟨p.x + v, v, h⟩
def stH (s : St) (p : Po) (v h k : Nat) : List Po := ((nats h k).map (stQ p v)).filter (stOk s p)
def stRow (s : St) (p : Po) (e v : Nat) : List Po := stH s p v (loH s p).toNat (hiH s p e v + 1 - loH s p).toNat
def stV (s : St) (p : Po) (e v k : Nat) : List Po := (nats v k).flatMap (stRow s p e)
def stL (s : St) (p : Po) (e : Nat) : List Po := stV s p e (loV p).toNat (hiV s p + 1 - loV p).toNat
def poA (q : Po) : List V := [.agg q.row]
def stE (d : Po × St × Nat) : List V := [.ip 3 [d.1.row] 0 0, .ip 5 [d.2.1.row] 0 0, .ip 1 [[.int .i64 (d.2.2 : Int)]] 0 0]
theorem stE_inj (a b : Po × St × Nat) (h : stE a = stE b) : a = b := by
  obtain ⟨a1, a2, a3⟩ := a; obtain ⟨b1, b2, b3⟩ := b
  simp only [stE, List.cons.injEq, V.ip.injEq, V.int.injEq, true_and, and_true] at h
  rw [Po.row_inj _ _ h.1, St.row_inj _ _ h.2.1, show a3 = b3 by omega]
structure StcP (d : Po × St × Nat) : Prop where
  s : StP d.2.1
  p : PoP d.2.1 d.1
  e : d.2.2 ≤ 1
@[simp] def stpE (d : Po × St × Nat) : List V := [.agg d.2.1.row, .agg d.1.row, .int .i64 (d.2.2 : Int)]
theorem stpE_inj (a b : Po × St × Nat) (h : stpE a = stpE b) : a = b := by
  obtain ⟨a1, a2, a3⟩ := a; obtain ⟨b1, b2, b3⟩ := b
  simp only [stpE, List.cons.injEq, V.agg.injEq, V.int.injEq, true_and, and_true] at h
  rw [Po.row_inj _ _ h.2.1, St.row_inj _ _ h.1, show a3 = b3 by omega]
noncomputable abbrev stpS : PSpec := mkP stpE (fun _ => True) fun d => .fn 112 (stE d)
noncomputable abbrev E76 : Env := { P := Tryz.prog, fn := tbl [], own := [], key := 7600, nt := 8, frz := [(1, [3, 50003, 4, 50004, 5, 50005])] }
theorem b76 : PureBody E76 [] Tryz.f76 stpS := by
  refine pb ?_
  rintro ⟨p, s, e⟩ _
  simp -dsimp [Tryz.f76, E76, St.row, Po.row, stE]
  repeat' (first | omega | (simp -dsimp [E76, ri, cellp, ints, St.row, Po.row, stE]) | (refine Also.intro ?_ fun _ => ?_) | (refine Hold.intro fun _ => ?_) | (refine And.intro ?_ ?_))
theorem ok76 : FnOK Tryz.prog 76 (.pure stpS) := pure_fn (E := E76) rfl LOK.nil (ok := []) (fn := Tryz.f76) (by kernel_rfl) (by kernel_rfl) (by kernel_rfl) (by kernel_rfl) rfl (fun _ _ => by simp) b76
open Classical in
noncomputable def stDec (caps : List V) (_ : Hp) : Prop × List (List V) := if x : ∃ d, caps = stE d then (StcP x.choose, (stL x.choose.2.1 x.choose.1 x.choose.2.2).map poA) else (False, [])
theorem stDec_at (d : Po × St × Nat) (h : Hp) : stDec (stE d) h = (StcP d, (stL d.2.1 d.1 d.2.2).map poA) := by
  have hx : ∃ d', stE d = stE d' := ⟨d, rfl⟩
  have e : hx.choose = d := (stE_inj _ _ hx.choose_spec).symm
  simp only [stDec, dif_pos hx, e]
theorem stDec_inv {caps : List V} {h : Hp} (hc : (stDec caps h).1) : ∃ d, caps = stE d ∧ StcP d ∧ (stDec caps h).2 = (stL d.2.1 d.1 d.2.2).map poA := by
  simp only [stDec] at hc ⊢
  by_cases hx : ∃ d, caps = stE d
  · rw [dif_pos hx] at hc ⊢
    exact ⟨_, hx.choose_spec, hc, rfl⟩
  · rw [dif_neg hx] at hc; exact hc.elim
noncomputable def stI : Nat → HSpec → HSpec := itS [11207] [] stDec
theorem stI_inv {l : Nat} {Y : HSpec} {args : List V} {h : Hp} (hc : ((stI l Y).go args h).c) : ∃ d, args = .yld l :: stE d ∧ Loc Y [11207] [] ∧ (∀ k ∈ [11207], h k = { base := (h k).base, blks := [] }) ∧ StcP d ∧ (feed Y ((stL d.2.1 d.1 d.2.2).map poA) h).1 ∧
    ((stI l Y).go args h).v = .tup [] ∧ ((stI l Y).go args h).h = hps ([11207].map fun k => (k, { base := (h k).base + 1000000, blks := [] })) (feed Y ((stL d.2.1 d.1 d.2.2).map poA) h).2 := by
  obtain ⟨caps, rfl, h2, h3, h4, h5, h6, h7⟩ := its_inv hc
  obtain ⟨d, rfl, k1, k2⟩ := stDec_inv h4
  rw [k2] at h5 h7
  exact ⟨d, rfl, h2, h3, k1, h5, h6, h7⟩
theorem kpSt : ∀ f S, tbl [(80, .pure dowS), (113, .pure clrS)] f = some (.heap S) → ∀ args h, (S.go args h).c → (h YS).blks = [] → (S.go args h).h YS = h YS := by
  intro f S hf
  simp only [tbl_cons, tbl_nil] at hf
  split at hf
  · cases hf
  · split at hf
    · cases hf
    · cases hf
structure StO (Y : HSpec) (FH : Hp) (s : St) (p : Po) (e : Nat) (hv : Int) (b1 : Nat) where
  v : Nat
  k : Nat
  H : Hp
  b : Nat
  hk : (v : Int) + k = hv + 1
  hb : b + 13 * k ≤ b1 + 39
  hf : (feed Y ((stV s p e v k).map poA) H).1 ∧ (feed Y ((stV s p e v k).map poA) H).2 = FH
structure StN (Y : HSpec) (FH : Hp) (s : St) (p : Po) (e v kv : Nat) (hh : Int) (b1 : Nat) where
  h : Nat
  k : Nat
  H : Hp
  b : Nat
  hk : k = (hh + 1 - h).toNat
  hl : p.h - s.x.c.drop ≤ h
  hb : b + k + 13 * kv ≤ b1 + 39
  hf : (feed Y ((stH s p v h k ++ stV s p e (v + 1) kv).map poA) H).1 ∧ (feed Y ((stH s p v h k ++ stV s p e (v + 1) kv).map poA) H).2 = FH
theorem stH_succ (s : St) (p : Po) (v h k : Nat) : stH s p v h (k + 1) = if stOk s p (stQ p v h) = true then stQ p v h :: stH s p v (h + 1) k else stH s p v (h + 1) k := by
  simp only [stH, nats, List.map_cons, List.filter_cons]
theorem stV_succ (s : St) (p : Po) (e v k : Nat) : stV s p e v (k + 1) = stRow s p e v ++ stV s p e (v + 1) k := rfl
theorem stOk_no1 {s : St} {p q : Po} (h : endsB s p q = true) : stOk s p q = false := by simp [stOk, h]
theorem stOk_no2 {s : St} {p q : Po} (h : sinkB s p q = true) : stOk s p q = false := by simp [stOk, h]
theorem stOk_no3 {s : St} {p q : Po} (h : ¬ q.x ≤ 40) : stOk s p q = false := by simp [stOk, h]
theorem stOk_no4 {s : St} {p q : Po} (h : clrB s p q = false) : stOk s p q = false := by simp [stOk, h]
theorem stOk_yes {s : St} {p q : Po} (h1 : endsB s p q = false) (h2 : sinkB s p q = false) (h3 : q.x ≤ 40) (h4 : clrB s p q = true) : stOk s p q = true := by simp [stOk, h1, h2, h3, h4]
theorem nz0 : ((0 : Nat) : Int) = 0 := rfl
theorem cx_re (x : CX) (e : Nat) (he : e ≤ 1) : x.row[33 + e]? = some (.sl 1 ((x.re e).map ri)) := by
  have : e = 0 ∨ e = 1 := by omega
  rcases this with rfl | rfl <;> rfl
theorem poP_dec (s : St) (p : Po) : decC spoE [.agg [.ip 36 [s.x.row] 0 0, .int .i64 s.f.len, .int .i64 s.f.clr, .int .i64 s.f.safe, .sl 2 (s.f.hs.map Hi.row)], .agg [.int .i64 p.x, .int .i64 p.v, .int .i64 p.h]] = (s, p) := decC_eq spoE_inj (s, p)
theorem ppP_dec (s : St) (p q : Po) : decC sppE [.agg [.ip 36 [s.x.row] 0 0, .int .i64 s.f.len, .int .i64 s.f.clr, .int .i64 s.f.safe, .sl 2 (s.f.hs.map Hi.row)], .agg [.int .i64 p.x, .int .i64 p.v, .int .i64 p.h], .agg [.int .i64 q.x, .int .i64 q.v, .int .i64 q.h]] = (s, p, q) := decC_eq sppE_inj (s, p, q)
noncomputable abbrev E112 : Env := { P := Tryz.prog, fn := tbl [(80, .pure dowS), (113, .pure clrS)], own := [], key := 11200, nt := 134, frz := [(7, [7, 50007])] }
theorem b112 : IterBody E112 [(1, ([], [[0, 1, 2, 3, 4, 5, 6, 7, 8, 9, 10, 11]])), (3, ([], [[0, 1, 2, 3, 4, 5, 6, 7, 8, 9, 10]])), (4, ([], [[0, 1, 2, 3, 4, 5, 6, 7, 8, 9, 10, 11, 12, 13, 14, 15]])), (7, ([], [[0, 1, 2, 3, 4, 5, 6, 7, 8, 9, 10, 11, 12, 13, 14, 15, 16, 17, 18, 19, 20, 21, 22, 23, 24]])), (8, ([], [[0, 1, 2, 3, 4, 5, 6, 7, 8, 9, 10, 11, 12, 13, 14, 15, 16, 17, 18, 19, 20, 21, 22, 23, 24]]))] Tryz.f112 stI := by
  intro l Y args h hc hyb hyf
  obtain ⟨⟨p, s, e⟩, rfl, hloc, hfr, ⟨hs, hp, he⟩, hfd, hv0, hh0⟩ := stI_inv hc
  simp only at hs hp he hfd hv0 hh0
  rw [hv0, hh0]
  clear hv0 hh0 hc
  have f1 := hfr 11207 (by simp)
  obtain ⟨FH, hFH⟩ : ∃ FH, (feed Y ((stL s p e).map poA) h).2 = FH := ⟨_, rfl⟩
  rw [hFH]
  simp only [List.map_cons, List.map_nil]
  generalize hb1 : (h 11207).base = b1 at *
  have hself : hps [(11207, { base := b1, blks := [] })] h = h := hps_self (by
    intro k hk
    simp at hk
    subst hk
    rw [f1]; rfl)
  rw [← hself]
  obtain ⟨p1, p2, p3, p4, p5, p6⟩ := hp
  have hc := crI_b hs.i
  have hfl := (fdB_b hs.f).2.2.2.1
  have hle : ((s.x.re e).length : Int) = s.x.c.top + 1 := by unfold CX.re; split; exact hs.r0; exact hs.r1
  have hbe : ∀ n ∈ s.x.re e, -1000000000 ≤ n ∧ n ≤ 1000000000 := by unfold CX.re; split; exact hs.b0; exact hs.b1
  have hlw := hs.wk
  have hcx := cx_re s.x e he
  obtain ⟨lo, hlo⟩ : ∃ lo : Nat, loV p = (lo : Int) := ⟨(loV p).toNat, by unfold loV; split <;> omega⟩
  obtain ⟨hv, hhv⟩ : ∃ z, hiV s p = z := ⟨_, rfl⟩
  obtain ⟨lh, hlh⟩ : ∃ lo : Nat, loH s p = (lo : Int) := ⟨(loH s p).toNat, by unfold loH; split <;> omega⟩
  have hL : stL s p e = stV s p e lo (hv + 1 - lo).toNat := by rw [stL, hhv, hlo]; rfl
  have hR : ∀ v, stRow s p e v = stH s p v lh (hiH s p e v + 1 - lh).toNat := fun v => by rw [stRow, hlh]; rfl
  rw [hL] at hfd hFH
  unfold loV at hlo
  unfold hiV at hhv
  unfold loH at hlh
  have hlv : (lo : Int) ≤ hv ∧ hv + 1 - lo ≤ 3 := by split at hlo <;> split at hhv <;> omega
  have hlb : p.h - s.x.c.drop ≤ lh ∧ (lh : Int) ≤ 12 := by split at hlh <;> omega
  have hvb : hv ≤ s.x.c.top := by split at hhv <;> omega
  have w1 : IntKind.wrap .i64 (p.v - 1) = p.v - 1 := wrap_id (by omega) (by omega)
  have w2 : IntKind.wrap .i64 (p.v + 1) = p.v + 1 := wrap_id (by omega) (by omega)
  have w3 : IntKind.wrap .i64 (p.h - s.x.c.drop) = p.h - s.x.c.drop := wrap_id (by omega) (by omega)
  simp -dsimp [Tryz.f112, E112, stE, St.row, Po.row]
  repeat' (first | omega | (simp -dsimp [E112, ri, cellp, ints, stE, St.row, Po.row, w1, hlo]) | (refine Also.intro ?_ fun _ => ?_) | (refine Hold.intro fun _ => ?_) | (refine And.intro ?_ ?_))
  refine awp_loop [14, 15, 16, 17, 18, 19, 20, 21, 22, 23, 24, 25, 28, 29, 30, 31, 32, 33, 34, 35, 36, 37, 6, 38, 39, 40, 41, 42, 43, 44, 45, 46, 47, 48, 49, 50, 51, 52, 53, 56, 57, 58, 59, 60, 61, 62, 7, 63, 64, 65, 66, 67, 68, 69, 70, 71, 72, 73, 74, 75, 76, 77, 78, 79, 80, 81, 82, 83, 84, 85, 86, 8, 87, 88, 89, 90, 91, 92, 93, 94, 95, 96, 97, 98, 99, 100, 101, 102, 103, 104, 105, 106, 107, 108, 109, 110, 9, 111, 112, 113, 114, 115, 116, 117, 118, 119, 120, 121, 122, 123, 124, 125, 126, 127, 128, 129, 130, 131, 132, 133, 54, 55, 26, 27, 5] (fun q : StO Y FH s p e hv b1 => [(5, (true, .int .i64 (q.v : Nat)))])
    (fun q => hps [(11207, { base := q.b, blks := [] })] q.H) (fun q => q.k) { v := lo, k := (hv + 1 - lo).toNat, H := h, b := b1, hk := by omega, hb := by omega, hf := ⟨hfd, hFH⟩ } ?_ ?_ ?_
  · simp [okAll, okv, hlo]
  · exact (by (try simp -dsimp only [hpush_noH, hpush_hps, hps_over]); refine hle_hpsb ?_; simp -dsimp [allK, ]; repeat' (first | (refine And.intro ?_ ?_) | (refine sLe.same ?_ ?_ <;> (simp; done)) | (refine sLe.clear ?_ ?_ <;> (first | (simp; done) | (simp; omega))) | (refine sLe.drop 1 ?_ ?_ ?_ <;> (simp; done))))
  clear hfd hFH hself f1 hfr
  rintro ⟨v, k, H, b, hk, hb, hfd, hFH⟩
  dsimp only
  cases k
  case zero =>
    have hvn : ((v : Int) ≤ hv) = False := eq_false (by omega)
    have hfe : H = FH := hFH
    subst hfe
    simp -dsimp [hvn]
    repeat' (first | omega | (simp -dsimp [E112, ri, cellp, ints, hvn, w1, w2, hhv, hlo]) | (refine Also.intro ?_ fun _ => ?_) | (refine Hold.intro fun _ => ?_) | (refine And.intro ?_ ?_))
    exact (by (try simp -dsimp only [hpush_noH, hpush_hps, hps_over]); refine hle_hpsb ?_; simp -dsimp [allK, ]; repeat' (first | (refine And.intro ?_ ?_) | (refine sLe.same ?_ ?_ <;> (simp; done)) | (refine sLe.clear ?_ ?_ <;> (first | (simp; done) | (simp; omega))) | (refine sLe.drop 1 ?_ ?_ ?_ <;> (simp; done))))
  case succ kv =>
  have hvi : ((v : Int) ≤ hv) = True := eq_true (by omega)
  have wv : IntKind.wrap .i64 ((v : Int) + 1) = (v + 1 : Nat) := wrap_id (by omega) (by omega)
  have hvl : v < (s.x.re e).length := by omega
  obtain ⟨r, hr, hr'⟩ := get_ex hvl
  have gr : rAt s e v = r := by simp [rAt, List.getD, hr]
  have hrb := hbe r (List.mem_of_getElem? hr)
  have w4 : IntKind.wrap .i64 (p.h + r) = p.h + r := wrap_id (by omega) (by omega)
  have w5 : IntKind.wrap .i64 (p.x + v) = p.x + v := wrap_id (by omega) (by omega)
  obtain ⟨hh, hhh⟩ : ∃ z, hiH s p e v = z := ⟨_, rfl⟩
  have hRv := hR v
  rw [hhh] at hRv
  unfold hiH at hhh
  rw [gr] at hhh
  have hhb : hh ≤ 12 := by split at hhh <;> omega
  rw [stV_succ, hRv] at hfd hFH
  simp -dsimp [hvi]
  repeat' (first | omega | (simp -dsimp [E112, ri, cellp, ints, hvi, w1, w2, w3, hhv, hlo, hlh]) | (refine Also.intro ?_ fun _ => ?_) | (refine Hold.intro fun _ => ?_) | (refine And.intro ?_ ?_))
  refine awp_loop [38, 39, 40, 41, 42, 43, 44, 45, 46, 47, 48, 49, 50, 51, 52, 53, 56, 57, 58, 59, 60, 61, 62, 7, 63, 64, 65, 66, 67, 68, 69, 70, 71, 72, 73, 74, 75, 76, 77, 78, 79, 80, 81, 82, 83, 84, 85, 86, 8, 87, 88, 89, 90, 91, 92, 93, 94, 95, 96, 97, 98, 99, 100, 101, 102, 103, 104, 105, 106, 107, 108, 109, 110, 9, 111, 112, 113, 114, 115, 116, 117, 118, 119, 120, 121, 122, 123, 124, 125, 126, 127, 128, 129, 130, 131, 132, 133, 54, 55, 6] (fun q : StN Y FH s p e v kv hh b1 => [(6, (true, .int .i64 (q.h : Nat)))])
    (fun q => hps [(11207, { base := q.b, blks := [] })] q.H) (fun q => q.k) { h := lh, k := (hh + 1 - lh).toNat, H := H, b := b, hk := rfl, hl := hlb.1, hb := by omega, hf := ⟨hfd, hFH⟩ } ?_ ?_ ?_
  · simp [okAll, okv, hlh]
  · exact (by (try simp -dsimp only [hpush_noH, hpush_hps, hps_over]); refine hle_hpsb ?_; simp -dsimp [allK, ]; repeat' (first | (refine And.intro ?_ ?_) | (refine sLe.same ?_ ?_ <;> (simp; done)) | (refine sLe.clear ?_ ?_ <;> (first | (simp; done) | (simp; omega))) | (refine sLe.drop 1 ?_ ?_ ?_ <;> (simp; done))))
  clear hfd hFH
  rintro ⟨n, k, H, b', hkk, hln, hbn, hfd, hFH⟩
  dsimp only
  cases k
  case zero =>
    have hnn : ((n : Int) ≤ hh) = False := eq_false (by omega)
    simp -dsimp [hnn]
    repeat' (first | omega | (simp -dsimp [E112, ri, cellp, ints, hnn, w1, w2, w3, w4, hcx, hr, hr', hvl, hhh, wv]) | (refine Also.intro ?_ fun _ => ?_) | (refine Hold.intro fun _ => ?_) | (refine And.intro ?_ ?_))
    refine ⟨{ v := v + 1, k := kv, H := H, b := b', hk := by omega, hb := by omega, hf := ⟨hfd, hFH⟩ }, tle_kept (kept_upds rfl (kept_forget rfl (kept_upds rfl kept_base))) ?_, (by (try simp -dsimp only [hpush_noH, hpush_hps, hps_over]); refine hle_hpsb ?_; simp -dsimp [allK, ]; repeat' (first | (refine And.intro ?_ ?_) | (refine sLe.same ?_ ?_ <;> (simp; done)) | (refine sLe.clear ?_ ?_ <;> (first | (simp; done) | (simp; omega))) | (refine sLe.drop 1 ?_ ?_ ?_ <;> (simp; done)))), by simp⟩
    simp [okAll, okv, wv]
  case succ k =>
  have hni : ((n : Int) ≤ hh) = True := eq_true (by omega)
  have wn : IntKind.wrap .i64 ((n : Int) + 1) = (n + 1 : Nat) := wrap_id (by omega) (by omega)
  obtain ⟨q, hq⟩ : ∃ q, stQ p v n = q := ⟨_, rfl⟩
  have qx : p.x + v = q.x := by rw [← hq]; rfl
  have qv : (v : Int) = q.v := by rw [← hq]; rfl
  have qh : (n : Int) = q.h := by rw [← hq]; rfl
  have dq := poP_dec s (stQ p v n)
  have dqq := ppP_dec s p (stQ p v n)
  simp only [stQ] at dq dqq
  have hcl : s.f.hs.length ≤ 1000000 := by omega
  rw [stH_succ] at hfd hFH
  have wz : IntKind.wrap .i64 1 = 1 := by decide
  by_cases n0 : n = 0
  · subst n0
    simp only [nz0] at hni wn dq dqq
    have hsk : sinkB s p (stQ p v 0) = false := by simp [sinkB, stQ]
    by_cases p0 : p.h = 0
    · have hen : endsB s p (stQ p v 0) = true := by simp [endsB, stQ, p0]
      have hhh' := hhh
      rw [p0, Int.zero_add] at hhh'
      have w4' := w4
      rw [p0, Int.zero_add] at w4'
      have hno : stOk s p (stQ p v 0) = false := stOk_no1 hen
      rw [hno, if_neg (by decide)] at hfd hFH
      simp -dsimp [hni]
      repeat' (first | omega | (simp -dsimp [E112, ri, cellp, ints, hni, w1, w2, w3, w4, w5, hcx, hr, hr', hvl, hhh, wn, dq, dqq, hcl, poA, p0, hhh', w4']) | (refine Also.intro ?_ fun _ => ?_) | (refine Hold.intro fun _ => ?_) | (refine And.intro ?_ ?_))
      refine ⟨{ h := 0 + 1, k := k, H := H, b := b' + 1, hk := by omega, hl := by omega, hb := by omega, hf := ⟨hfd, hFH⟩ }, tle_chain rfl ?_, (by (try simp -dsimp only [hpush_noH, hpush_hps, hps_over]); refine hle_hpsb ?_; simp -dsimp [allK, ]; repeat' (first | (refine And.intro ?_ ?_) | (refine sLe.same ?_ ?_ <;> (simp; done)) | (refine sLe.clear ?_ ?_ <;> (first | (simp; done) | (simp; omega))) | (refine sLe.drop 1 ?_ ?_ ?_ <;> (simp; done)))), by simp⟩
      simp [okAll, okv, wn, wz]
    have p0' : (p.h = 0) = False := eq_false p0
    by_cases ps : s.x.c.sink < p.h
    · have hen : endsB s p (stQ p v 0) = true := by simp [endsB, stQ, ps]
      have hno : stOk s p (stQ p v 0) = false := stOk_no1 hen
      rw [hno, if_neg (by decide)] at hfd hFH
      simp -dsimp [hni]
      repeat' (first | omega | (simp -dsimp [E112, ri, cellp, ints, hni, w1, w2, w3, w4, w5, hcx, hr, hr', hvl, hhh, wn, dq, dqq, hcl, poA, p0', ps]) | (refine Also.intro ?_ fun _ => ?_) | (refine Hold.intro fun _ => ?_) | (refine And.intro ?_ ?_))
      refine ⟨{ h := 0 + 1, k := k, H := H, b := b' + 1, hk := by omega, hl := by omega, hb := by omega, hf := ⟨hfd, hFH⟩ }, tle_chain rfl ?_, (by (try simp -dsimp only [hpush_noH, hpush_hps, hps_over]); refine hle_hpsb ?_; simp -dsimp [allK, ]; repeat' (first | (refine And.intro ?_ ?_) | (refine sLe.same ?_ ?_ <;> (simp; done)) | (refine sLe.clear ?_ ?_ <;> (first | (simp; done) | (simp; omega))) | (refine sLe.drop 1 ?_ ?_ ?_ <;> (simp; done)))), by simp⟩
      simp [okAll, okv, wn, wz]
    have ps' : (s.x.c.sink < p.h) = False := eq_false ps
    cases hd : downB s (stQ p v 0)
    case false =>
      have hen : endsB s p (stQ p v 0) = true := by simp only [endsB, hd]; simp [stQ]
      have hd2 := hd
      simp only [stQ, nz0] at hd2
      have hno : stOk s p (stQ p v 0) = false := stOk_no1 hen
      rw [hno, if_neg (by decide)] at hfd hFH
      simp -dsimp [hni]
      repeat' (first | omega | (simp -dsimp [E112, ri, cellp, ints, hni, w1, w2, w3, w4, w5, hcx, hr, hr', hvl, hhh, wn, dq, dqq, hcl, poA, p0', ps', hd2]) | (refine Also.intro ?_ fun _ => ?_) | (refine Hold.intro fun _ => ?_) | (refine And.intro ?_ ?_))
      refine ⟨{ h := 0 + 1, k := k, H := H, b := b' + 1, hk := by omega, hl := by omega, hb := by omega, hf := ⟨hfd, hFH⟩ }, tle_chain rfl ?_, (by (try simp -dsimp only [hpush_noH, hpush_hps, hps_over]); refine hle_hpsb ?_; simp -dsimp [allK, ]; repeat' (first | (refine And.intro ?_ ?_) | (refine sLe.same ?_ ?_ <;> (simp; done)) | (refine sLe.clear ?_ ?_ <;> (first | (simp; done) | (simp; omega))) | (refine sLe.drop 1 ?_ ?_ ?_ <;> (simp; done)))), by simp⟩
      simp [okAll, okv, wn, wz]
    have hen : endsB s p (stQ p v 0) = false := by simp only [endsB, hd]; simp [stQ, p0, ps]
    have hd2 := hd
    simp only [stQ, nz0] at hd2
    by_cases hx : p.x + (v : Int) ≤ 40
    case neg =>
      have hx' : (p.x + (v : Int) ≤ 40) = False := eq_false hx
      have hno : stOk s p (stQ p v 0) = false := stOk_no3 hx
      rw [hno, if_neg (by decide)] at hfd hFH
      simp -dsimp [hni]
      repeat' (first | omega | (simp -dsimp [E112, ri, cellp, ints, hni, w1, w2, w3, w4, w5, hcx, hr, hr', hvl, hhh, wn, dq, dqq, hcl, poA, p0', ps', hd2, hx']) | (refine Also.intro ?_ fun _ => ?_) | (refine Hold.intro fun _ => ?_) | (refine And.intro ?_ ?_))
      refine ⟨{ h := 0 + 1, k := k, H := H, b := b' + 1, hk := by omega, hl := by omega, hb := by omega, hf := ⟨hfd, hFH⟩ }, tle_chain rfl ?_, (by (try simp -dsimp only [hpush_noH, hpush_hps, hps_over]); refine hle_hpsb ?_; simp -dsimp [allK, ]; repeat' (first | (refine And.intro ?_ ?_) | (refine sLe.same ?_ ?_ <;> (simp; done)) | (refine sLe.clear ?_ ?_ <;> (first | (simp; done) | (simp; omega))) | (refine sLe.drop 1 ?_ ?_ ?_ <;> (simp; done)))), by simp⟩
      simp [okAll, okv, wn, wz]
    cases hclr : clrB s p (stQ p v 0)
    case false =>
      have hclr2 := hclr
      simp only [stQ, nz0] at hclr2
      have hno : stOk s p (stQ p v 0) = false := stOk_no4 hclr
      rw [hno, if_neg (by decide)] at hfd hFH
      simp -dsimp [hni]
      repeat' (first | omega | (simp -dsimp [E112, ri, cellp, ints, hni, w1, w2, w3, w4, w5, hcx, hr, hr', hvl, hhh, wn, dq, dqq, hcl, poA, p0', ps', hd2, hx, hclr2]) | (refine Also.intro ?_ fun _ => ?_) | (refine Hold.intro fun _ => ?_) | (refine And.intro ?_ ?_))
      refine ⟨{ h := 0 + 1, k := k, H := H, b := b' + 1, hk := by omega, hl := by omega, hb := by omega, hf := ⟨hfd, hFH⟩ }, tle_chain rfl ?_, (by (try simp -dsimp only [hpush_noH, hpush_hps, hps_over]); refine hle_hpsb ?_; simp -dsimp [allK, ]; repeat' (first | (refine And.intro ?_ ?_) | (refine sLe.same ?_ ?_ <;> (simp; done)) | (refine sLe.clear ?_ ?_ <;> (first | (simp; done) | (simp; omega))) | (refine sLe.drop 1 ?_ ?_ ?_ <;> (simp; done)))), by simp⟩
      simp [okAll, okv, wn, wz]
    have hclr2 := hclr
    simp only [stQ, nz0] at hclr2
    rw [stOk_yes hen hsk hx hclr, if_pos rfl, List.cons_append, List.map_cons] at hfd hFH
    obtain ⟨hyc, bb, hyv, htr, hfa⟩ := feed_step hfd
    obtain ⟨H2, hH2⟩ : ∃ H2, (Y.go (poA (stQ p v 0)) H).h = H2 := ⟨_, rfl⟩
    rw [hH2] at hfa htr
    have hgo : ∀ S1, Y.go (poA (stQ p v 0)) (hps [(11207, S1)] H) = ⟨True, .bool bb, hps [(11207, S1)] H2⟩ := fun S1 => by
      have := hloc.go hyc hyv [(11207, S1)]
      rw [hH2] at this; exact this
    simp only [poA, Po.row] at hgo
    simp only [stQ, nz0] at hgo
    cases bb with
    | false =>
      rw [hfa rfl] at hFH
      subst hFH
      simp -dsimp [hni]
      repeat' (first | omega | (simp -dsimp [E112, ri, cellp, ints, hni, w1, w2, w3, w4, w5, hcx, hr, hr', hvl, hhh, wn, dq, dqq, hcl, poA, p0', ps', hd2, hx, hclr2, hgo]) | (refine Also.intro ?_ fun _ => ?_) | (refine Hold.intro fun _ => ?_) | (refine And.intro ?_ ?_))
      exact (by (try simp -dsimp only [hpush_noH, hpush_hps, hps_over]); refine hle_hpsb ?_; simp -dsimp [allK, ]; repeat' (first | (refine And.intro ?_ ?_) | (refine sLe.same ?_ ?_ <;> (simp; done)) | (refine sLe.clear ?_ ?_ <;> (first | (simp; done) | (simp; omega))) | (refine sLe.drop 1 ?_ ?_ ?_ <;> (simp; done))))
    | true =>
      obtain ⟨hf3, hf4⟩ := htr rfl
      rw [hf4] at hFH
      simp -dsimp [hni]
      repeat' (first | omega | (simp -dsimp [E112, ri, cellp, ints, hni, w1, w2, w3, w4, w5, hcx, hr, hr', hvl, hhh, wn, dq, dqq, hcl, poA, p0', ps', hd2, hx, hclr2, hgo]) | (refine Also.intro ?_ fun _ => ?_) | (refine Hold.intro fun _ => ?_) | (refine And.intro ?_ ?_))
      refine ⟨{ h := 0 + 1, k := k, H := H2, b := b' + 1, hk := by omega, hl := by omega, hb := by omega, hf := ⟨hf3, hFH⟩ }, tle_chain rfl ?_, (by (try simp -dsimp only [hpush_noH, hpush_hps, hps_over]); refine hle_hpsb ?_; simp -dsimp [allK, ]; repeat' (first | (refine And.intro ?_ ?_) | (refine sLe.same ?_ ?_ <;> (simp; done)) | (refine sLe.clear ?_ ?_ <;> (first | (simp; done) | (simp; omega))) | (refine sLe.drop 1 ?_ ?_ ?_ <;> (simp; done)))), by simp⟩
      simp [okAll, okv, wn, wz]
  have n0' : ((n : Int) = 0) = False := eq_false (by omega)
  have n1 : ((0 : Int) < n) = True := eq_true (by omega)
  have n2 : (0 < n) = True := eq_true (by omega)
  have hen : endsB s p (stQ p v n) = false := by simp [endsB, stQ, n0]
  by_cases np : (n : Int) < p.h
  case neg =>
    have np' : ((n : Int) < p.h) = False := eq_false np
    have hsk : sinkB s p (stQ p v n) = false := by simp [sinkB, stQ, np]
    by_cases hx : p.x + (v : Int) ≤ 40
    case neg =>
      have hx' : (p.x + (v : Int) ≤ 40) = False := eq_false hx
      have hno : stOk s p (stQ p v n) = false := stOk_no3 hx
      rw [hno, if_neg (by decide)] at hfd hFH
      simp -dsimp [hni]
      repeat' (first | omega | (simp -dsimp [E112, ri, cellp, ints, hni, w1, w2, w3, w4, w5, hcx, hr, hr', hvl, hhh, wn, dq, dqq, hcl, poA, n0, n0', n1, n2, np', hx']) | (refine Also.intro ?_ fun _ => ?_) | (refine Hold.intro fun _ => ?_) | (refine And.intro ?_ ?_))
      refine ⟨{ h := n + 1, k := k, H := H, b := b' + 1, hk := by omega, hl := by omega, hb := by omega, hf := ⟨hfd, hFH⟩ }, tle_chain rfl ?_, (by (try simp -dsimp only [hpush_noH, hpush_hps, hps_over]); refine hle_hpsb ?_; simp -dsimp [allK, ]; repeat' (first | (refine And.intro ?_ ?_) | (refine sLe.same ?_ ?_ <;> (simp; done)) | (refine sLe.clear ?_ ?_ <;> (first | (simp; done) | (simp; omega))) | (refine sLe.drop 1 ?_ ?_ ?_ <;> (simp; done)))), by simp⟩
      simp [okAll, okv, wn, wz]
    cases hclr : clrB s p (stQ p v n)
    case false =>
      have hclr2 := hclr
      simp only [stQ] at hclr2
      have hno : stOk s p (stQ p v n) = false := stOk_no4 hclr
      rw [hno, if_neg (by decide)] at hfd hFH
      simp -dsimp [hni]
      repeat' (first | omega | (simp -dsimp [E112, ri, cellp, ints, hni, w1, w2, w3, w4, w5, hcx, hr, hr', hvl, hhh, wn, dq, dqq, hcl, poA, n0, n0', n1, n2, np', hx, hclr2]) | (refine Also.intro ?_ fun _ => ?_) | (refine Hold.intro fun _ => ?_) | (refine And.intro ?_ ?_))
      refine ⟨{ h := n + 1, k := k, H := H, b := b' + 1, hk := by omega, hl := by omega, hb := by omega, hf := ⟨hfd, hFH⟩ }, tle_chain rfl ?_, (by (try simp -dsimp only [hpush_noH, hpush_hps, hps_over]); refine hle_hpsb ?_; simp -dsimp [allK, ]; repeat' (first | (refine And.intro ?_ ?_) | (refine sLe.same ?_ ?_ <;> (simp; done)) | (refine sLe.clear ?_ ?_ <;> (first | (simp; done) | (simp; omega))) | (refine sLe.drop 1 ?_ ?_ ?_ <;> (simp; done)))), by simp⟩
      simp [okAll, okv, wn, wz]
    have hclr2 := hclr
    simp only [stQ] at hclr2
    rw [stOk_yes hen hsk hx hclr, if_pos rfl, List.cons_append, List.map_cons] at hfd hFH
    obtain ⟨hyc, bb, hyv, htr, hfa⟩ := feed_step hfd
    obtain ⟨H2, hH2⟩ : ∃ H2, (Y.go (poA (stQ p v n)) H).h = H2 := ⟨_, rfl⟩
    rw [hH2] at hfa htr
    have hgo : ∀ S1, Y.go (poA (stQ p v n)) (hps [(11207, S1)] H) = ⟨True, .bool bb, hps [(11207, S1)] H2⟩ := fun S1 => by
      have := hloc.go hyc hyv [(11207, S1)]
      rw [hH2] at this; exact this
    simp only [poA, Po.row] at hgo
    simp only [stQ] at hgo
    cases bb with
    | false =>
      rw [hfa rfl] at hFH
      subst hFH
      simp -dsimp [hni]
      repeat' (first | omega | (simp -dsimp [E112, ri, cellp, ints, hni, w1, w2, w3, w4, w5, hcx, hr, hr', hvl, hhh, wn, dq, dqq, hcl, poA, n0, n0', n1, n2, np', hx, hclr2, hgo]) | (refine Also.intro ?_ fun _ => ?_) | (refine Hold.intro fun _ => ?_) | (refine And.intro ?_ ?_))
      exact (by (try simp -dsimp only [hpush_noH, hpush_hps, hps_over]); refine hle_hpsb ?_; simp -dsimp [allK, ]; repeat' (first | (refine And.intro ?_ ?_) | (refine sLe.same ?_ ?_ <;> (simp; done)) | (refine sLe.clear ?_ ?_ <;> (first | (simp; done) | (simp; omega))) | (refine sLe.drop 1 ?_ ?_ ?_ <;> (simp; done))))
    | true =>
      obtain ⟨hf3, hf4⟩ := htr rfl
      rw [hf4] at hFH
      simp -dsimp [hni]
      repeat' (first | omega | (simp -dsimp [E112, ri, cellp, ints, hni, w1, w2, w3, w4, w5, hcx, hr, hr', hvl, hhh, wn, dq, dqq, hcl, poA, n0, n0', n1, n2, np', hx, hclr2, hgo]) | (refine Also.intro ?_ fun _ => ?_) | (refine Hold.intro fun _ => ?_) | (refine And.intro ?_ ?_))
      refine ⟨{ h := n + 1, k := k, H := H2, b := b' + 1, hk := by omega, hl := by omega, hb := by omega, hf := ⟨hf3, hFH⟩ }, tle_chain rfl ?_, (by (try simp -dsimp only [hpush_noH, hpush_hps, hps_over]); refine hle_hpsb ?_; simp -dsimp [allK, ]; repeat' (first | (refine And.intro ?_ ?_) | (refine sLe.same ?_ ?_ <;> (simp; done)) | (refine sLe.clear ?_ ?_ <;> (first | (simp; done) | (simp; omega))) | (refine sLe.drop 1 ?_ ?_ ?_ <;> (simp; done)))), by simp⟩
      simp [okAll, okv, wn, wz]
  obtain ⟨d, hd⟩ : ∃ d : Nat, p.h - n = (d : Int) := ⟨(p.h - n).toNat, by omega⟩
  have w8 : IntKind.wrap .i64 (p.h - n) = (d : Nat) := by rw [hd]; exact wrap_id (by omega) (by omega)
  have hvw : v < s.x.wk.length := by omega
  obtain ⟨wl, hw, hw'⟩ := get_ex hvw
  have hwl := hs.wr wl (List.mem_of_getElem? hw)
  have hdl : d < wl.length := by omega
  obtain ⟨wb, hwb, hwb'⟩ := get_ex hdl
  have hd3 : (p.h - n).toNat = d := by omega
  have gw : wkAt s v d = wb := by simp [wkAt, List.getD, hw, hwb]
  have hsk0 : sinkB s p (stQ p v n) = wb := by simp [sinkB, stQ, np, hd3, gw, show 0 < n by omega]
  cases wb
  case true =>
    have hno : stOk s p (stQ p v n) = false := stOk_no2 hsk0
    rw [hno, if_neg (by decide)] at hfd hFH
    simp -dsimp [hni]
    repeat' (first | omega | (simp -dsimp [E112, ri, cellp, ints, hni, w1, w2, w3, w4, w5, hcx, hr, hr', hvl, hhh, wn, dq, dqq, hcl, poA, n0, n0', n1, n2, np, w8, hvw, hw, hw', hdl, hwb, hwb', bI, bwI]) | (refine Also.intro ?_ fun _ => ?_) | (refine Hold.intro fun _ => ?_) | (refine And.intro ?_ ?_))
    refine ⟨{ h := n + 1, k := k, H := H, b := b' + 1, hk := by omega, hl := by omega, hb := by omega, hf := ⟨hfd, hFH⟩ }, tle_chain rfl ?_, (by (try simp -dsimp only [hpush_noH, hpush_hps, hps_over]); refine hle_hpsb ?_; simp -dsimp [allK, ]; repeat' (first | (refine And.intro ?_ ?_) | (refine sLe.same ?_ ?_ <;> (simp; done)) | (refine sLe.clear ?_ ?_ <;> (first | (simp; done) | (simp; omega))) | (refine sLe.drop 1 ?_ ?_ ?_ <;> (simp; done)))), by simp⟩
    simp [okAll, okv, wn, wz]
  by_cases hx : p.x + (v : Int) ≤ 40
  case neg =>
    have hx' : (p.x + (v : Int) ≤ 40) = False := eq_false hx
    have hno : stOk s p (stQ p v n) = false := stOk_no3 hx
    rw [hno, if_neg (by decide)] at hfd hFH
    simp -dsimp [hni]
    repeat' (first | omega | (simp -dsimp [E112, ri, cellp, ints, hni, w1, w2, w3, w4, w5, hcx, hr, hr', hvl, hhh, wn, dq, dqq, hcl, poA, n0, n0', n1, n2, np, w8, hvw, hw, hw', hdl, hwb, hwb', bI, bwI, hx']) | (refine Also.intro ?_ fun _ => ?_) | (refine Hold.intro fun _ => ?_) | (refine And.intro ?_ ?_))
    refine ⟨{ h := n + 1, k := k, H := H, b := b' + 1, hk := by omega, hl := by omega, hb := by omega, hf := ⟨hfd, hFH⟩ }, tle_chain rfl ?_, (by (try simp -dsimp only [hpush_noH, hpush_hps, hps_over]); refine hle_hpsb ?_; simp -dsimp [allK, ]; repeat' (first | (refine And.intro ?_ ?_) | (refine sLe.same ?_ ?_ <;> (simp; done)) | (refine sLe.clear ?_ ?_ <;> (first | (simp; done) | (simp; omega))) | (refine sLe.drop 1 ?_ ?_ ?_ <;> (simp; done)))), by simp⟩
    simp [okAll, okv, wn, wz]
  cases hclr : clrB s p (stQ p v n)
  case false =>
    have hclr2 := hclr
    simp only [stQ] at hclr2
    have hno : stOk s p (stQ p v n) = false := stOk_no4 hclr
    rw [hno, if_neg (by decide)] at hfd hFH
    simp -dsimp [hni]
    repeat' (first | omega | (simp -dsimp [E112, ri, cellp, ints, hni, w1, w2, w3, w4, w5, hcx, hr, hr', hvl, hhh, wn, dq, dqq, hcl, poA, n0, n0', n1, n2, np, w8, hvw, hw, hw', hdl, hwb, hwb', bI, bwI, hx, hclr2]) | (refine Also.intro ?_ fun _ => ?_) | (refine Hold.intro fun _ => ?_) | (refine And.intro ?_ ?_))
    refine ⟨{ h := n + 1, k := k, H := H, b := b' + 1, hk := by omega, hl := by omega, hb := by omega, hf := ⟨hfd, hFH⟩ }, tle_chain rfl ?_, (by (try simp -dsimp only [hpush_noH, hpush_hps, hps_over]); refine hle_hpsb ?_; simp -dsimp [allK, ]; repeat' (first | (refine And.intro ?_ ?_) | (refine sLe.same ?_ ?_ <;> (simp; done)) | (refine sLe.clear ?_ ?_ <;> (first | (simp; done) | (simp; omega))) | (refine sLe.drop 1 ?_ ?_ ?_ <;> (simp; done)))), by simp⟩
    simp [okAll, okv, wn, wz]
  have hclr2 := hclr
  simp only [stQ] at hclr2
  rw [stOk_yes hen hsk0 hx hclr, if_pos rfl, List.cons_append, List.map_cons] at hfd hFH
  obtain ⟨hyc, bb, hyv, htr, hfa⟩ := feed_step hfd
  obtain ⟨H2, hH2⟩ : ∃ H2, (Y.go (poA (stQ p v n)) H).h = H2 := ⟨_, rfl⟩
  rw [hH2] at hfa htr
  have hgo : ∀ S1, Y.go (poA (stQ p v n)) (hps [(11207, S1)] H) = ⟨True, .bool bb, hps [(11207, S1)] H2⟩ := fun S1 => by
    have := hloc.go hyc hyv [(11207, S1)]
    rw [hH2] at this; exact this
  simp only [poA, Po.row] at hgo
  simp only [stQ] at hgo
  cases bb with
  | false =>
    rw [hfa rfl] at hFH
    subst hFH
    simp -dsimp [hni]
    repeat' (first | omega | (simp -dsimp [E112, ri, cellp, ints, hni, w1, w2, w3, w4, w5, hcx, hr, hr', hvl, hhh, wn, dq, dqq, hcl, poA, n0, n0', n1, n2, np, w8, hvw, hw, hw', hdl, hwb, hwb', bI, bwI, hx, hclr2, hgo]) | (refine Also.intro ?_ fun _ => ?_) | (refine Hold.intro fun _ => ?_) | (refine And.intro ?_ ?_))
    exact (by (try simp -dsimp only [hpush_noH, hpush_hps, hps_over]); refine hle_hpsb ?_; simp -dsimp [allK, ]; repeat' (first | (refine And.intro ?_ ?_) | (refine sLe.same ?_ ?_ <;> (simp; done)) | (refine sLe.clear ?_ ?_ <;> (first | (simp; done) | (simp; omega))) | (refine sLe.drop 1 ?_ ?_ ?_ <;> (simp; done))))
  | true =>
    obtain ⟨hf3, hf4⟩ := htr rfl
    rw [hf4] at hFH
    simp -dsimp [hni]
    repeat' (first | omega | (simp -dsimp [E112, ri, cellp, ints, hni, w1, w2, w3, w4, w5, hcx, hr, hr', hvl, hhh, wn, dq, dqq, hcl, poA, n0, n0', n1, n2, np, w8, hvw, hw, hw', hdl, hwb, hwb', bI, bwI, hx, hclr2, hgo]) | (refine Also.intro ?_ fun _ => ?_) | (refine Hold.intro fun _ => ?_) | (refine And.intro ?_ ?_))
    refine ⟨{ h := n + 1, k := k, H := H2, b := b' + 1, hk := by omega, hl := by omega, hb := by omega, hf := ⟨hf3, hFH⟩ }, tle_chain rfl ?_, (by (try simp -dsimp only [hpush_noH, hpush_hps, hps_over]); refine hle_hpsb ?_; simp -dsimp [allK, ]; repeat' (first | (refine And.intro ?_ ?_) | (refine sLe.same ?_ ?_ <;> (simp; done)) | (refine sLe.clear ?_ ?_ <;> (first | (simp; done) | (simp; omega))) | (refine sLe.drop 1 ?_ ?_ ?_ <;> (simp; done)))), by simp⟩
    simp [okAll, okv, wn, wz]
theorem ok112 : FnOK Tryz.prog 112 (.iter stI) := iter_fn (E := E112) rfl (.cons ok80 (.cons ok113 .nil)) (ok := [(1, ([], [[0, 1, 2, 3, 4, 5, 6, 7, 8, 9, 10, 11]])), (3, ([], [[0, 1, 2, 3, 4, 5, 6, 7, 8, 9, 10]])), (4, ([], [[0, 1, 2, 3, 4, 5, 6, 7, 8, 9, 10, 11, 12, 13, 14, 15]])), (7, ([], [[0, 1, 2, 3, 4, 5, 6, 7, 8, 9, 10, 11, 12, 13, 14, 15, 16, 17, 18, 19, 20, 21, 22, 23, 24]])), (8, ([], [[0, 1, 2, 3, 4, 5, 6, 7, 8, 9, 10, 11, 12, 13, 14, 15, 16, 17, 18, 19, 20, 21, 22, 23, 24]]))]) (fn := Tryz.f112) (by kernel_rfl) (by kernel_rfl) (by kernel_rfl) (fun _ _ => by kernel_rfl) rfl (fun l Y args h hc => by obtain ⟨d, rfl, _⟩ := stI_inv hc; simp [stE]) kpSt b112
end Go.Sx.Rot
