/- Spans: Count of boxes of two spans of which no two have a point in common. No conditions. -/
import Derived.Test.YtomgmojjdgiieaaGreatP48
set_option linter.unusedSimpArgs false
set_option linter.unusedVariables false
set_option linter.unusedSectionVars false
set_option linter.unusedSimpArgs false
set_option linter.unusedSectionVars false
set_option maxRecDepth 100000
set_option maxHeartbeats 8000000
namespace Go.Sx
open Go.Proofs
attribute [local irreducible] HLe
def spW (s : Sp) : Int := s.hi - s.lo + 1
def area (x : Bx) : Int := spW x.a * spW x.b
def arS : List Bx → Int
  | [] => 0
  | x :: l => area x + arS l
theorem arS_add (x : Bx) : ∀ l, arS (l ++ [x]) = arS l + area x
  | [] => by simp [arS]
  | y :: l => by simp only [List.cons_append, arS, arS_add x l]; omega
theorem arS_take {l : List Bx} {k : Nat} {x : Bx} (h : l[k]? = some x) : arS (l.take (k + 1)) = arS (l.take k) + area x := by
  rw [List.take_add_one, h]; exact arS_add x _
theorem spW_b {s : Sp} (h : spN s = false) : 1 ≤ spW s ∧ spW s ≤ 2000001 := by
  rw [spN_eq] at h
  simp only [Bool.not_eq_false', decide_eq_true_eq] at h
  unfold spW; omega
theorem area_b {x : Bx} (h : Ok2 x) : 0 ≤ area x ∧ area x ≤ 4000004000001 := by
  have h1 := spW_b h.a
  have h2 := spW_b h.b
  unfold area
  exact ⟨Int.mul_nonneg (by omega) (by omega), by have := Int.mul_le_mul h1.2 h2.2 (by omega) (by omega); omega⟩
theorem arS_b : ∀ {l : List Bx}, (∀ s ∈ l, Ok2 s) → 0 ≤ arS l ∧ arS l ≤ l.length * 4000004000001
  | [], _ => by simp [arS]
  | x :: l, h => by
    have h1 := area_b (h x (by simp))
    have h2 := arS_b (l := l) fun s hs => h s (by simp [hs])
    simp only [arS, List.length_cons]
    omega
structure CnP (l : List Bx) : Prop where
  n : l.length ≤ 20
  ok : ∀ s ∈ l, Ok2 s
  d : ∀ (i j : Nat) (x y : Bx), l[i]? = some x → l[j]? = some y → i < j → mns2 y x = [y]
structure Cn2 where
  n : Nat
  h : n ≤ 2
noncomputable abbrev cnS : PSpec := mkP bxsE CnP fun l => .tup [.int .i64 (arS l), .int .i64 0]
noncomputable abbrev E9 : Env := { P := Tryz.prog, fn := tbl [(18, .pure chkS), (19, .pure resS)], own := [], key := 900, nt := 72 }
theorem b9 : PureBody E9 [] Tryz.f9 cnS := by
  refine pb ?_
  rintro l ⟨hn, hok, hd⟩
  have e1 : ((20 : Int) < l.length) = False := eq_false (by omega)
  have e2 : (20 < l.length) = False := eq_false (by omega)
  have hde : decC bxsE [.sl 1 (l.map bxV)] = l := decC_eq bxsE_inj l
  have hch : ChP l := ⟨by omega, hok⟩
  have wone : IntKind.wrap .i64 1 = 1 := wrap_id (by omega) (by omega)
  have wtwo : IntKind.wrap .i64 2 = 2 := wrap_id (by omega) (by omega)
  have wtwo' : IntKind.wrap .i64 (1 + 1) = 2 := wrap_id (by omega) (by omega)
  simp -dsimp [Tryz.f9, E9]
  repeat' (first | omega | (simp -dsimp [E9, ri, cellp, ints, e1, e2, hde, hch]) | (refine Also.intro ?_ fun _ => ?_) | (refine Hold.intro fun _ => ?_) | (refine And.intro ?_ ?_))
  refine awp_loop [26, 27, 28, 29, 5, 6, 30, 31, 7, 32, 33, 34, 35, 36, 37, 38, 39, 9, 40, 41, 42, 43, 44, 45, 46, 47, 48, 49, 11, 12, 50, 51, 52, 53, 54, 55, 14, 56, 57, 58, 59, 60, 61, 62, 63, 64, 65, 66, 67, 68, 2, 69, 70, 25] (fun k : { k : Nat // k ≤ l.length } => [(25, (true, .int .i64 k.1)), (2, (true, .int .i64 (arS (l.take k.1))))]) (fun k => hps [(914, { base := 2 * k.1, blks := [] })] noH) (fun k => l.length - k.1) ⟨0, by omega⟩ ?_ ?_ ?_
  · simp [okAll, okv, arS]
  · show HLe (hps [] noH) _
    exact (by (try simp -dsimp only [hpush_noH, hpush_hps, hps_over]); refine hle_hps ?_; simp -dsimp [allK, ]; repeat' (first | (refine And.intro ?_ ?_) | (refine sLe.same ?_ ?_ <;> (simp; done)) | (refine sLe.clear ?_ ?_ <;> (first | (simp; done) | (simp; omega))) | (refine sLe.drop 1 ?_ ?_ ?_ <;> (simp; done))))
  rintro ⟨k, hk⟩
  dsimp only
  by_cases hk1 : k < l.length
  case neg =>
    have hkn : ((k : Int) < l.length) = False := eq_false (by omega)
    have hke : k = l.length := by omega
    have hT : arS (l.take k) = arS l := by rw [hke, List.take_length]
    simp -dsimp [hkn, hT]
    repeat' (first | omega | (simp -dsimp [E9, ri, cellp, ints, hkn, hT]) | (refine Also.intro ?_ fun _ => ?_) | (refine Hold.intro fun _ => ?_) | (refine And.intro ?_ ?_))
  have hki : ((k : Int) < l.length) = True := eq_true (by omega)
  have wk : IntKind.wrap .i64 ((k : Int) + 1) = (k + 1 : Nat) := wrap_id (by omega) (by omega)
  obtain ⟨x, hx⟩ : ∃ x, l[k]? = some x := ⟨_, List.getElem?_eq_getElem hk1⟩
  have hx' : l[k] = x := (List.getElem?_eq_some_iff.1 hx).2
  have hxo := hok x (by rw [← hx']; exact List.getElem_mem hk1)
  have hT := arS_take hx
  have hS := arS_b (l := l.take k) fun s hs => hok s (List.mem_of_mem_take hs)
  have hA := area_b hxo
  have hlt : (l.take k).length = k := by rw [List.length_take]; omega
  rw [hlt] at hS
  obtain ⟨S, hSS⟩ : ∃ S, arS (l.take k) = S := ⟨_, rfl⟩
  rw [hSS] at hT hS
  rw [hSS]
  have hmin : min k l.length = k := by omega
  have htn : ((k : Int)).toNat = k := by omega
  have hkl : ((k : Int) ≤ l.length) = True := eq_true (by omega)
  have hkl2 : (k ≤ l.length) = True := eq_true (by omega)
  simp -dsimp [hki]
  repeat' (first | omega | (simp -dsimp [E9, ri, cellp, ints, hki, hk1, hx, hx', hmin, htn, hkl, hkl2, bxV, Sp.row]) | (refine Also.intro ?_ fun _ => ?_) | (refine Hold.intro fun _ => ?_) | (refine And.intro ?_ ?_))
  refine awp_loop [37, 38, 39, 9, 40, 41, 42, 7, 43, 36] (fun j : { j : Nat // j ≤ k } => [(36, (true, .int .i64 j.1)), (7, (true, .sl 1 [bxV x]))]) (fun _ => hps [(914, { base := 2 * k, blks := [] })] noH) (fun j => k - j.1) ⟨0, by omega⟩ ?_ (HLe.refl _) ?_
  · simp [okAll, okv, bxV, Sp.row]
  rintro ⟨j, hj⟩
  dsimp only
  by_cases hj1 : j < k
  case pos =>
    have hji : ((j : Int) < k) = True := eq_true (by omega)
    have hjl : j < l.length := by omega
    have wj : IntKind.wrap .i64 ((j : Int) + 1) = (j + 1 : Nat) := wrap_id (by omega) (by omega)
    obtain ⟨y, hy⟩ : ∃ y, l[j]? = some y := ⟨_, List.getElem?_eq_getElem hjl⟩
    have hy' : l[j] = y := (List.getElem?_eq_some_iff.1 hy).2
    have hyo := hok y (by rw [← hy']; exact List.getElem_mem hjl)
    have hm := hd j k y x hy hx hj1
    have hr : rst2 [x] y = [x] := by simp [rst2, hm]
    have hrd : decC rsA [.sl 1 [[.sl 2 [[.int .i64 x.a.lo, .int .i64 x.a.hi], [.int .i64 x.b.lo, .int .i64 x.b.hi]]]], .sl 2 [[.int .i64 y.a.lo, .int .i64 y.a.hi], [.int .i64 y.b.lo, .int .i64 y.b.hi]]] = ([x], y) := decC_eq rsA_inj ([x], y)
    have hrp : RsP ([x], y) := ⟨by simp, fun s hs => by simp at hs; subst hs; exact hxo.bn, hyo.bn⟩
    simp -dsimp [hji, bxV, Sp.row]
    repeat' (first | omega | (simp -dsimp [E9, ri, cellp, ints, hji, hj1, hjl, hy, hy', hmin, wj, hrd, hrp, hr, bxV, Sp.row]) | (refine Also.intro ?_ fun _ => ?_) | (refine Hold.intro fun _ => ?_) | (refine And.intro ?_ ?_))
    refine ⟨j + 1, tle_chain rfl ?_, HLe.refl _, by omega, by omega⟩
    simp [okAll, okv, bxV, Sp.row]
  have hjn : ((j : Int) < k) = False := eq_false (by omega)
  have hje : j = k := by omega
  subst hje
  simp -dsimp [hjn, bxV, Sp.row]
  repeat' (first | omega | (simp -dsimp [E9, ri, cellp, ints, hjn, bxV, Sp.row]) | (refine Also.intro ?_ fun _ => ?_) | (refine Hold.intro fun _ => ?_) | (refine And.intro ?_ ?_))
  refine awp_loop [47, 48, 49, 11, 12, 50, 51, 52, 53, 54, 55, 14, 56, 57, 58, 59, 60, 61, 62, 63, 64, 65, 66, 67, 68, 2, 69, 46] (fun q : Bool => [(46, (true, .int .i64 (if q then 1 else 0))), (2, (true, .int .i64 (if q then S + area x else S)))]) (fun q => hps [(914, { base := if q then 2 * j + 2 else 2 * j, blks := [] })] noH) (fun q => if q then 0 else 1) false ?_ ?_ ?_
  · simp [okAll, okv]
  · exact (by (try simp -dsimp only [hpush_noH, hpush_hps, hps_over]); refine hle_hps ?_; simp -dsimp [allK, ]; repeat' (first | (refine And.intro ?_ ?_) | (refine sLe.same ?_ ?_ <;> (simp; done)) | (refine sLe.clear ?_ ?_ <;> (first | (simp; done) | (simp; omega))) | (refine sLe.drop 1 ?_ ?_ ?_ <;> (simp; done))))
  rintro (_ | _)
  case true =>
    simp -dsimp []
    repeat' (first | omega | (simp -dsimp [E9, ri, cellp, ints, wk, bxV, Sp.row]) | (refine Also.intro ?_ fun _ => ?_) | (refine Hold.intro fun _ => ?_) | (refine And.intro ?_ ?_))
    refine ⟨j + 1, tle_kept (kept_upds rfl (kept_forget rfl (kept_upds rfl (kept_forget rfl (kept_upds rfl kept_base))))) ?_, (by (try simp -dsimp only [hpush_noH, hpush_hps, hps_over]); refine hle_hps ?_; simp -dsimp [allK, ]; repeat' (first | (refine And.intro ?_ ?_) | (refine sLe.same ?_ ?_ <;> (simp; done)) | (refine sLe.clear ?_ ?_ <;> (first | (simp; done) | (simp; omega))) | (refine sLe.drop 1 ?_ ?_ ?_ <;> (simp; done)))), by omega, by omega⟩
    simp [okAll, okv, hT]
  have hW := spW_b hxo.a
  have hH := spW_b hxo.b
  have hAW : area x = spW x.a * spW x.b := rfl
  obtain ⟨⟨⟨b1, b2⟩, b3, b4⟩, ⟨⟨c1, c2⟩, c3, c4⟩⟩ := hxo.bn
  have w1 : IntKind.wrap .i64 (x.a.hi - x.a.lo) = x.a.hi - x.a.lo := wrap_id (by omega) (by omega)
  have w2 : IntKind.wrap .i64 (x.b.hi - x.b.lo) = x.b.hi - x.b.lo := wrap_id (by omega) (by omega)
  have w3 : IntKind.wrap .i64 (x.a.hi - x.a.lo + 1) = spW x.a := wrap_id (by omega) (by omega)
  have w4 : IntKind.wrap .i64 (x.b.hi - x.b.lo + 1) = spW x.b := wrap_id (by omega) (by omega)
  have w5 : IntKind.wrap .i64 (spW x.a) = spW x.a := wrap_id (by omega) (by omega)
  have w6 : IntKind.wrap .i64 (spW x.a * spW x.b) = area x := by rw [← hAW]; exact wrap_id (by omega) (by omega)
  have w7 : IntKind.wrap .i64 (S + area x) = S + area x := wrap_id (by omega) (by omega)
  have hcap : ((1000000000000000000 : Int) < S + area x) = False := eq_false (by omega)
  have hcap' : (S + area x ≤ (1000000000000000000 : Int)) = True := eq_true (by omega)
  simp -dsimp [bxV, Sp.row]
  repeat' (first | omega | (simp -dsimp [E9, ri, cellp, ints, bxV, Sp.row]) | (refine Also.intro ?_ fun _ => ?_) | (refine Hold.intro fun _ => ?_) | (refine And.intro ?_ ?_))
  refine awp_loop [53, 54, 55, 14, 56, 57, 58, 59, 60, 61, 62, 63, 12, 64, 52] (fun c : Cn2 => [(52, (true, .int .i64 (c.n : Nat))), (12, (true, .int .i64 (if c.n = 0 then 1 else if c.n = 1 then spW x.a else area x)))]) (fun c => hps [(914, { base := 2 * j + c.n, blks := [] })] noH) (fun c => 2 - c.n) ⟨0, by omega⟩ ?_ ?_ ?_
  · simp [okAll, okv]
  · exact (by (try simp -dsimp only [hpush_noH, hpush_hps, hps_over]); refine hle_hps ?_; simp -dsimp [allK, ]; repeat' (first | (refine And.intro ?_ ?_) | (refine sLe.same ?_ ?_ <;> (simp; done)) | (refine sLe.clear ?_ ?_ <;> (first | (simp; done) | (simp; omega))) | (refine sLe.drop 1 ?_ ?_ ?_ <;> (simp; done))))
  rintro ⟨c, hc⟩
  dsimp only
  have hcr : c = 2 ∨ c = 0 ∨ c = 1 := by omega
  rcases hcr with rfl | rfl | rfl
  · simp -dsimp []
    repeat' (first | omega | (simp -dsimp [E9, ri, cellp, ints, w7, hcap, hcap', wone]) | (refine Also.intro ?_ fun _ => ?_) | (refine Hold.intro fun _ => ?_) | (refine And.intro ?_ ?_))
    · exact tle_kept (kept_upds rfl (kept_forget rfl (kept_upds rfl kept_base))) (by simp [okAll, okv])
    · exact (by (try simp -dsimp only [hpush_noH, hpush_hps, hps_over]); refine hle_hps ?_; simp -dsimp [allK, ]; repeat' (first | (refine And.intro ?_ ?_) | (refine sLe.same ?_ ?_ <;> (simp; done)) | (refine sLe.clear ?_ ?_ <;> (first | (simp; done) | (simp; omega))) | (refine sLe.drop 1 ?_ ?_ ?_ <;> (simp; done))))
  · simp -dsimp []
    repeat' (first | omega | (simp -dsimp [E9, ri, cellp, ints, w1, w3, w5, wone]) | (refine Also.intro ?_ fun _ => ?_) | (refine Hold.intro fun _ => ?_) | (refine And.intro ?_ ?_))
    refine ⟨⟨1, by omega⟩, tle_chain rfl ?_, (by (try simp -dsimp only [hpush_noH, hpush_hps, hps_over]); refine hle_hps ?_; simp -dsimp [allK, ]; repeat' (first | (refine And.intro ?_ ?_) | (refine sLe.same ?_ ?_ <;> (simp; done)) | (refine sLe.clear ?_ ?_ <;> (first | (simp; done) | (simp; omega))) | (refine sLe.drop 1 ?_ ?_ ?_ <;> (simp; done)))), by simp⟩
    simp [okAll, okv]
  · simp -dsimp []
    repeat' (first | omega | (simp -dsimp [E9, ri, cellp, ints, w2, w4, w6, wtwo, wtwo']) | (refine Also.intro ?_ fun _ => ?_) | (refine Hold.intro fun _ => ?_) | (refine And.intro ?_ ?_))
    refine ⟨⟨2, by omega⟩, tle_chain rfl ?_, (by (try simp -dsimp only [hpush_noH, hpush_hps, hps_over]); refine hle_hps ?_; simp -dsimp [allK, ]; repeat' (first | (refine And.intro ?_ ?_) | (refine sLe.same ?_ ?_ <;> (simp; done)) | (refine sLe.clear ?_ ?_ <;> (first | (simp; done) | (simp; omega))) | (refine sLe.drop 1 ?_ ?_ ?_ <;> (simp; done)))), by simp⟩
    simp [okAll, okv]
theorem ok9 : FnOK Tryz.prog 9 (.pure cnS) := pure_fn (E := E9) rfl (.cons ok18 (.cons ok19 .nil)) (ok := []) (fn := Tryz.f9) (by kernel_rfl) (by kernel_rfl) (by kernel_rfl) (by kernel_rfl) rfl (fun _ _ => by simp) b9
end Go.Sx
