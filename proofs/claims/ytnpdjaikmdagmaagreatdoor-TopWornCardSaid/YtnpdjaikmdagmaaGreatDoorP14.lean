/- A part of a proof; no conditions. -/
import Derived.Test.YtnpdjaikmdagmaaGreatDoorP13
set_option linter.unusedSimpArgs false
set_option linter.unusedVariables false
set_option linter.unusedSectionVars false
section
/- Parts: what only reads a hangar, part 2. No conditions. -/
set_option linter.unusedSimpArgs false
set_option linter.unusedSectionVars false
set_option maxRecDepth 100000
set_option maxHeartbeats 1000000
namespace Go.Sx
open Go.Proofs

theorem get_ex {α : Type} {l : List α} {k : Nat} (h : k < l.length) : ∃ a, l[k]? = some a ∧ l[k] = a := ⟨_, List.getElem?_eq_getElem h, rfl⟩
theorem atE_dec' (p : PS) (k a b : Int) : decC atE [.ip 8 [[.int .i64 p.kind, .int .i64 p.hours, .int .i64 p.cycles, .bool p.known, .int .i64 p.a, .int .i64 p.b, .sl 1 (p.since.map ri), .sl 1 (p.chk.map rb)]] 0 0, .ip 1 [[.int .i64 k]] 0 0, .ip 2 [[.int .i64 a, .int .i64 b]] 0 0] = ⟨p, k, a, b⟩ := decC_eq atE_inj ⟨p, k, a, b⟩
structure IxD where
  ps : List PS
  k : Int
  a : Int
  b : Int
  deriving Inhabited
@[simp] def ixE (d : IxD) : List V := [ptsI d.ps, .fn 59 [boxI d.k, boxS d.a d.b]]
theorem ixE_inj (x y : IxD) (h : ixE x = ixE y) : x = y := by
  obtain ⟨p, k, a, b⟩ := x
  obtain ⟨p', k', a', b'⟩ := y
  simp only [ixE, List.cons.injEq, boxI, boxS, V.fn.injEq, V.ip.injEq, V.int.injEq, true_and, and_true] at h
  rw [ptsI_inj _ _ h.1, h.2.1, h.2.2.1, h.2.2.2]
theorem ixE_dec0 (k a b : Int) : decC ixE [.nil, .fn 59 [.ip 1 [[.int .i64 k]] 0 0, .ip 2 [[.int .i64 a, .int .i64 b]] 0 0]] = ⟨[], k, a, b⟩ := decC_eq ixE_inj ⟨[], k, a, b⟩
theorem ixE_dec (ps : List PS) (k a b : Int) (h : 0 < ps.length) : decC ixE [.sl 1 (ps.map fun p => [ptI p]), .fn 59 [.ip 1 [[.int .i64 k]] 0 0, .ip 2 [[.int .i64 a, .int .i64 b]] 0 0]] = ⟨ps, k, a, b⟩ := by
  have := decC_eq ixE_inj ⟨ps, k, a, b⟩
  simp only [ixE, ptsI_ne h] at this
  exact this
noncomputable abbrev ixS : PSpec := mkP ixE (fun d => d.ps.length ≤ 9223372036854775807) fun d => .int .i64 (idxZ d.ps (atIs d.k d.a d.b))
noncomputable abbrev E58 : Env := { P := Tryz.prog, fn := tbl [(59, .pure atS1)], own := [], key := 5800, nt := 19 }
theorem b58 : PureBody E58 [] Tryz.f58 ixS := by
  refine pb ?_
  rintro ⟨ps, ki, a, b⟩ hl
  simp only at hl
  simp -dsimp [Tryz.f58, E58, boxI, boxS]
  refine awp_loop [9, 10, 5, 11, 12, 13, 14, 15, 16, 17, 4, 18, 8] (fun k : { k : Nat // k ≤ ps.length ∧ ∀ j (h : j < ps.length), j < k → atIs ki a b ps[j] = false } => [(8, (true, .int .i64 k.1))]) (fun _ => noH) (fun k => ps.length - k.1) ⟨0, by omega, fun _ _ h => by omega⟩ ?_ (HLe.refl _) ?_
  · simp [okAll, okv]
  rintro ⟨k, hk, hall⟩
  by_cases hk1 : k < ps.length
  · have hki : (k : Int) < ps.length := by omega
    have hp := ptsI_ne (ps := ps) (by omega)
    have e1 : (ps.map fun p => [ptI p])[k]? = some [ptI ps[k]] := by rw [List.getElem?_map, List.getElem?_eq_getElem hk1]; rfl
    have wk : IntKind.wrap .i64 ((k : Int) + 1) = (k + 1 : Nat) := wrap_id (by omega) (by omega)
    cases hw : atIs ki a b ps[k]
    · simp -dsimp [hki, hp]
      repeat' (first | omega | (simp -dsimp [E58, ri, cellp, ints, hki, hk1, hp, e1, hl, hw, wk, ptI, PS.irow, atE_dec', boxI, boxS]) | (refine Also.intro ?_ fun _ => ?_) | (refine Hold.intro fun _ => ?_) | (refine And.intro ?_ ?_))
      refine ⟨k + 1, tle_chain rfl ?_, HLe.refl _, ⟨by omega, fun j h hj => ?_⟩, by omega⟩
      · simp [okAll, okv]
      · by_cases hjk : j = k
        · subst hjk; exact hw
        · exact hall j h (by omega)
    · have hz := idxZ_at ps (atIs ki a b) hk1 hw hall
      simp -dsimp [hki, hp]
      repeat' (first | omega | (simp -dsimp [E58, ri, cellp, ints, hki, hk1, hp, e1, hl, hw, wk, hz, ptI, PS.irow, atE_dec', boxI, boxS]) | (refine Also.intro ?_ fun _ => ?_) | (refine Hold.intro fun _ => ?_) | (refine And.intro ?_ ?_))
  · have hkn : ¬ (k : Int) < ps.length := by omega
    have hz := idxZ_none ps (atIs ki a b) (fun j h => hall j h (by omega))
    simp -dsimp [hkn]
    repeat' (first | omega | (simp -dsimp [E58, ri, cellp, ints, hkn, hz]) | (refine Also.intro ?_ fun _ => ?_) | (refine Hold.intro fun _ => ?_) | (refine And.intro ?_ ?_))
theorem ok58 : FnOK Tryz.prog 58 (.pure ixS) := pure_fn (E := E58) rfl (.cons ok59 .nil) (ok := []) (fn := Tryz.f58) (by kernel_rfl) (by kernel_rfl) (by kernel_rfl) (by kernel_rfl) rfl (fun _ _ => by simp) b58
def HI.at (x : HI) (k a b : Int) : Int := idxZ x.ps (atIs k a b)
@[simp] def haE (d : HI × Int × Int × Int) : List V := [d.1.v, .int .i64 d.2.1, .agg [.int .i64 d.2.2.1, .int .i64 d.2.2.2]]
theorem haE_inj (a b : HI × Int × Int × Int) (h : haE a = haE b) : a = b := by
  obtain ⟨x, a1, a2, a3⟩ := a
  obtain ⟨y, b1, b2, b3⟩ := b
  simp only [haE, List.cons.injEq, V.agg.injEq, V.int.injEq, true_and, and_true] at h
  rw [HI.v_inj _ _ h.1, h.2.1, h.2.2.1, h.2.2.2]
theorem haE_dec (x : HI) (k a b : Int) : decC haE [x.v, .int .i64 k, .agg [.int .i64 a, .int .i64 b]] = (x, k, a, b) := decC_eq haE_inj (x, k, a, b)
noncomputable abbrev haS : PSpec := mkP haE (fun d => d.1.ps.length ≤ 9223372036854775807) fun d => .int .i64 (d.1.at d.2.1 d.2.2.1 d.2.2.2)
noncomputable abbrev E24 : Env := { P := Tryz.prog, fn := tbl [(58, .pure ixS)], own := [], key := 2400, nt := 13 }
theorem b24 : PureBody E24 [] Tryz.f24 haS := by
  refine pb ?_
  rintro ⟨x, k, a, b⟩ hl
  simp only at hl
  by_cases h0 : x.ps.length = 0
  · have e0 : x.ps = [] := List.length_eq_zero_iff.1 h0
    simp -dsimp [Tryz.f24, E24, HI.v, e0, show ptsI [] = .nil from rfl, HI.at]
    repeat' (first | omega | (simp -dsimp [E24, ri, cellp, ints, e0, show ptsI [] = .nil from rfl, ixE_dec0, boxI, boxS, HI.at]) | (refine Also.intro ?_ fun _ => ?_) | (refine Hold.intro fun _ => ?_) | (refine And.intro ?_ ?_))
  · have hp := ptsI_ne (ps := x.ps) (by omega)
    have hd := fun k a b => ixE_dec x.ps k a b (by omega)
    simp -dsimp [Tryz.f24, E24, HI.v, hp, HI.at]
    repeat' (first | omega | (simp -dsimp [E24, ri, cellp, ints, hp, hd, hl, boxI, boxS, HI.at]) | (refine Also.intro ?_ fun _ => ?_) | (refine Hold.intro fun _ => ?_) | (refine And.intro ?_ ?_))
theorem ok24 : FnOK Tryz.prog 24 (.pure haS) := pure_fn (E := E24) rfl (.cons ok58 .nil) (ok := []) (fn := Tryz.f24) (by kernel_rfl) (by kernel_rfl) (by kernel_rfl) (by kernel_rfl) rfl (fun _ _ => by simp) b24
/-! left: how much a part can still fly -/
def imin (a b : Int) : Int := if b < a then b else a
def HI.leftI (x : HI) (p : PS) (i : Nat) : Bool := x.iss.getD i false && ((x.r.orders.getD i default).kind == p.kind && !(p.chk.getD i false))
def HI.leftH (x : HI) (p : PS) : Nat → Int
  | 0 => wsub (x.r.kinds.getD p.kind.toNat default).hours p.hours
  | i + 1 => if x.leftI p i = true then imin (x.leftH p i) (wsub (x.r.orders.getD i default).within (p.since.getD i 0)) else x.leftH p i
def HI.leftC (x : HI) (p : PS) : Int := wsub (x.r.kinds.getD p.kind.toNat default).cycles p.cycles
def HI.leftT (x : HI) (p : PS) : Int := x.leftH p x.r.orders.length
structure HI.Fit (x : HI) (p : PS) : Prop where
  k0 : 0 ≤ p.kind
  k1 : p.kind < x.r.kinds.length
  iss : x.iss.length = x.r.orders.length
  chk : p.chk.length = x.r.orders.length
  since : p.since.length = x.r.orders.length
  len : x.r.orders.length ≤ 1000000
@[simp] def hpE (d : HI × PS) : List V := [d.1.v, ptI d.2]
theorem hpE_inj (a b : HI × PS) (h : hpE a = hpE b) : a = b := by
  simp only [hpE, List.cons.injEq, and_true] at h
  exact Prod.ext (HI.v_inj _ _ h.1) (ptI_inj _ _ h.2)
theorem hpE_dec (x : HI) (p : PS) : decC hpE [x.v, ptI p] = (x, p) := decC_eq hpE_inj (x, p)
noncomputable abbrev leftS : PSpec := mkP hpE (fun d => d.1.Fit d.2) fun d => .tup [.int .i64 (d.1.leftT d.2), .int .i64 (d.1.leftC d.2)]
noncomputable abbrev E107 : Env := { P := Tryz.prog, fn := tbl [], own := [], key := 10700, nt := 90 }
theorem b107 : PureBody E107 [(1, ([4, 9, 10, 11], [[0, 1, 2, 3, 4, 5, 6, 7, 8, 9, 10, 11, 12, 13]]))] Tryz.f107 leftS := by
  refine pb ?_
  rintro ⟨x, p⟩ ⟨h1, h2, h3, h4, h5, h6⟩
  simp only at h1 h2 h3 h4 h5 h6
  obtain ⟨ki, hki⟩ : ∃ ki : Nat, p.kind = ki := ⟨p.kind.toNat, by omega⟩
  have hk2 : ki < x.r.kinds.length := by omega
  obtain ⟨kd, hkd, hkd'⟩ := get_ex hk2
  have e1 : (x.r.kinds.map Kd.row)[ki]? = some kd.row := by rw [List.getElem?_map, hkd]; rfl
  have g1 : x.r.kinds.getD ki default = kd := by simp [List.getD, hkd]
  simp -dsimp [Tryz.f107, E107, HI.v, ptI, PS.irow, hki]
  repeat' (first | omega | (simp -dsimp [E107, ri, cellp, ints, hkd, hkd', hk2, hki, Kd.row, HI.v, ptI, PS.irow, FreeAt]) | (refine Also.intro ?_ fun _ => ?_) | (refine Hold.intro fun _ => ?_) | (refine And.intro ?_ ?_))
  have hC : x.leftC p = IntKind.wrap .i64 (kd.cycles - p.cycles) := by simp only [HI.leftC, wsub, hki, Int.toNat_natCast, g1]
  have hH : x.leftH p 0 = IntKind.wrap .i64 (kd.hours - p.hours) := by simp only [HI.leftH, wsub, hki, Int.toNat_natCast, g1]
  refine awp_loop [44, 45, 46, 47, 8, 7, 48, 49, 50, 51, 52, 53, 54, 55, 56, 57, 58, 59, 60, 61, 62, 63, 64, 65, 66, 67, 68, 69, 70, 71, 72, 73, 74, 75, 76, 77, 78, 79, 80, 81, 82, 83, 84, 85, 86, 4, 87, 43] (fun k : Fin (x.r.orders.length + 1) => [(43, (true, .int .i64 (k.1 : Nat))), (4, (true, .int .i64 (x.leftH p k.1)))]) (fun k => hps [(10706, { base := 1, blks := [] }), (10708, { base := k.1, blks := [] })] noH) (fun k => x.r.orders.length - k.1) ⟨0, by omega⟩ ?_ (by (try simp -dsimp only [hpush_noH, hpush_hps, hps_over]); refine hle_hps ?_; simp -dsimp [allK, ]; repeat' (first | (refine And.intro ?_ ?_) | (refine sLe.same ?_ ?_ <;> (simp; done)) | (refine sLe.clear ?_ ?_ <;> (first | (simp; done) | (simp; omega))) | (refine sLe.drop 1 ?_ ?_ ?_ <;> (simp; done)))) ?_
  · simp [okAll, okv, hH]
  rintro ⟨k, hk⟩
  simp only
  by_cases hk1 : k < x.r.orders.length
  · have hki2 : (k : Int) < x.r.orders.length := by omega
    have wk : IntKind.wrap .i64 ((k : Int) + 1) = (k + 1 : Nat) := wrap_id (by omega) (by omega)
    have l1 : k < x.iss.length := by omega
    have l2 : k < p.chk.length := by omega
    have l3 : k < p.since.length := by omega
    obtain ⟨od, hod, hod'⟩ := get_ex hk1
    obtain ⟨b1, hb1, hb1'⟩ := get_ex l1
    obtain ⟨b2, hb2, hb2'⟩ := get_ex l2
    obtain ⟨sn, hsn, hsn'⟩ := get_ex l3
    have e2 : (x.r.orders.map Od.row)[k]? = some od.row := by rw [List.getElem?_map, hod]; rfl
    have e3 : (x.iss.map rb)[k]? = some (rb b1) := by rw [List.getElem?_map, hb1]; rfl
    have e4 : (p.chk.map rb)[k]? = some (rb b2) := by rw [List.getElem?_map, hb2]; rfl
    have e5 : (p.since.map ri)[k]? = some (ri sn) := by rw [List.getElem?_map, hsn]; rfl
    have hs : x.leftH p (k + 1) = if b1 && (od.kind == p.kind && !b2) then imin (x.leftH p k) (wsub od.within sn) else x.leftH p k := by
      simp only [HI.leftH, HI.leftI, List.getD, hod, hb1, hb2, hsn, Option.getD_some]
    generalize x.leftH p k = H at *
    cases b1
    · simp -dsimp [hki2]
      repeat' (first | omega | (simp -dsimp [E107, ri, cellp, ints, hki2, hk1, hod, hb1, hb2, hsn, hod', hb1', hb2', hsn', wk, l1, l2, l3, Od.row, rb, ri]) | (refine Also.intro ?_ fun _ => ?_) | (refine Hold.intro fun _ => ?_) | (refine And.intro ?_ ?_))
      refine ⟨⟨k + 1, by omega⟩, tle_chain rfl ?_, (by (try simp -dsimp only [hpush_noH, hpush_hps, hps_over]); refine hle_hps ?_; simp -dsimp [allK, ]; repeat' (first | (refine And.intro ?_ ?_) | (refine sLe.same ?_ ?_ <;> (simp; done)) | (refine sLe.clear ?_ ?_ <;> (first | (simp; done) | (simp; omega))) | (refine sLe.drop 1 ?_ ?_ ?_ <;> (simp; done)))), by simp only; omega⟩
      simp [okAll, okv, hs]
    by_cases hkk : od.kind = p.kind
    case neg =>
      have hkk' : (od.kind = (ki : Int)) = False := eq_false (by rw [← hki]; exact hkk)
      have hkk2 : (od.kind == (ki : Int)) = false := by simpa using hkk'
      simp -dsimp [hki2]
      repeat' (first | omega | (simp -dsimp [E107, ri, cellp, ints, hki2, hk1, hod, hb1, hb2, hsn, hod', hb1', hb2', hsn', wk, l1, l2, l3, Od.row, rb, ri, hkk', hkk2]) | (refine Also.intro ?_ fun _ => ?_) | (refine Hold.intro fun _ => ?_) | (refine And.intro ?_ ?_))
      refine ⟨⟨k + 1, by omega⟩, tle_chain rfl ?_, (by (try simp -dsimp only [hpush_noH, hpush_hps, hps_over]); refine hle_hps ?_; simp -dsimp [allK, ]; repeat' (first | (refine And.intro ?_ ?_) | (refine sLe.same ?_ ?_ <;> (simp; done)) | (refine sLe.clear ?_ ?_ <;> (first | (simp; done) | (simp; omega))) | (refine sLe.drop 1 ?_ ?_ ?_ <;> (simp; done)))), by simp only; omega⟩
      simp [okAll, okv, hs, hkk]
    have hkk' : od.kind = (ki : Int) := by rw [← hki]; exact hkk
    cases b2
    · simp -dsimp [hki2]
      repeat' (first | omega | (simp -dsimp [E107, ri, cellp, ints, hki2, hk1, hod, hb1, hb2, hsn, hod', hb1', hb2', hsn', wk, l1, l2, l3, Od.row, rb, ri, hkk']) | (refine Also.intro ?_ fun _ => ?_) | (refine Hold.intro fun _ => ?_) | (refine And.intro ?_ ?_))
      refine ⟨⟨k + 1, by omega⟩, tle_chain rfl ?_, (by (try simp -dsimp only [hpush_noH, hpush_hps, hps_over]); refine hle_hps ?_; simp -dsimp [allK, ]; repeat' (first | (refine And.intro ?_ ?_) | (refine sLe.same ?_ ?_ <;> (simp; done)) | (refine sLe.clear ?_ ?_ <;> (first | (simp; done) | (simp; omega))) | (refine sLe.drop 1 ?_ ?_ ?_ <;> (simp; done)))), by simp only; omega⟩
      by_cases hlt : IntKind.i64.wrap (od.within - sn) < H <;> simp [okAll, okv, hs, hkk, imin, wsub, hlt]
    · simp -dsimp [hki2]
      repeat' (first | omega | (simp -dsimp [E107, ri, cellp, ints, hki2, hk1, hod, hb1, hb2, hsn, hod', hb1', hb2', hsn', wk, l1, l2, l3, Od.row, rb, ri, hkk']) | (refine Also.intro ?_ fun _ => ?_) | (refine Hold.intro fun _ => ?_) | (refine And.intro ?_ ?_))
      refine ⟨⟨k + 1, by omega⟩, tle_chain rfl ?_, (by (try simp -dsimp only [hpush_noH, hpush_hps, hps_over]); refine hle_hps ?_; simp -dsimp [allK, ]; repeat' (first | (refine And.intro ?_ ?_) | (refine sLe.same ?_ ?_ <;> (simp; done)) | (refine sLe.clear ?_ ?_ <;> (first | (simp; done) | (simp; omega))) | (refine sLe.drop 1 ?_ ?_ ?_ <;> (simp; done)))), by simp only; omega⟩
      simp [okAll, okv, hs, hkk]
  · have hkn : ¬ (k : Int) < x.r.orders.length := by omega
    have hke : k = x.r.orders.length := by omega
    subst hke
    simp -dsimp [hkn]
    repeat' (first | omega | (simp -dsimp [E107, ri, cellp, ints, hkn, HI.leftT, hC]) | (refine Also.intro ?_ fun _ => ?_) | (refine Hold.intro fun _ => ?_) | (refine And.intro ?_ ?_))
theorem ok107 : FnOK Tryz.prog 107 (.pure leftS) := pure_fn (E := E107) rfl LOK.nil (ok := [(1, ([4, 9, 10, 11], [[0, 1, 2, 3, 4, 5, 6, 7, 8, 9, 10, 11, 12, 13]]))]) (fn := Tryz.f107) (by kernel_rfl) (by kernel_rfl) (by kernel_rfl) (by kernel_rfl) rfl (fun _ _ => by simp) b107
end Go.Sx
end
section
/- Parts: what only reads a hangar, part 3. No conditions. -/
set_option linter.unusedSimpArgs false
set_option linter.unusedSectionVars false
set_option maxRecDepth 100000
set_option maxHeartbeats 1000000
namespace Go.Sx
open Go.Proofs

def HI.emp (x : HI) (m : Int) (k j : Nat) : Bool := decide (x.at k m j < 0)
def HI.lackK (x : HI) (m : Int) (k : Nat) : Nat → List (Int × Int)
  | 0 => []
  | j + 1 => if x.emp m k j = true then x.lackK m k j ++ [((k : Int), (j : Int))] else x.lackK m k j
def HI.places (x : HI) (k : Nat) : Nat := (x.r.kinds.getD k default).places.toNat
def HI.lackTo (x : HI) (m : Int) : Nat → List (Int × Int)
  | 0 => []
  | k + 1 => x.lackTo m k ++ x.lackK m k (x.places k)
def HI.lacks (x : HI) (m : Int) : List (Int × Int) := x.lackTo m x.r.kinds.length
theorem lackK_len (x : HI) (m : Int) (k : Nat) : ∀ j, (x.lackK m k j).length ≤ j
  | 0 => by simp [HI.lackK]
  | j + 1 => by
    have := lackK_len x m k j
    simp only [HI.lackK]; split <;> simp <;> omega
structure HI.Small (x : HI) : Prop where
  ps : x.ps.length ≤ 1000
  kinds : x.r.kinds.length ≤ 1000
  places : ∀ kd ∈ x.r.kinds, kd.places ≤ 1000
theorem places_le {x : HI} (hs : x.Small) (k : Nat) : x.places k ≤ 1000 := by
  unfold HI.places
  by_cases hk : k < x.r.kinds.length
  · have := hs.places _ (List.getElem_mem hk)
    simp only [List.getD, List.getElem?_eq_getElem hk, Option.getD_some]
    omega
  · simp only [List.getD, List.getElem?_eq_none (by omega : x.r.kinds.length ≤ k), Option.getD_none]
    decide
theorem lackTo_len {x : HI} (hs : x.Small) (m : Int) : ∀ k, (x.lackTo m k).length ≤ 1000 * k
  | 0 => by simp [HI.lackTo]
  | k + 1 => by
    have h1 := lackTo_len hs m k
    have h2 := lackK_len x m k (x.places k)
    have h3 := places_le hs k
    simp only [HI.lackTo, List.length_append]; omega
theorem haE_dec' (x : HI) (k a b : Int) : decC haE [.ip 9 [[.sl 3 (x.r.kinds.map Kd.row), .sl 4 (x.r.parts.map Pt.row), .int .i64 x.r.machines, .sl 2 (x.r.orders.map Od.row), ptsI x.ps, .sl 1 (x.iss.map rb), x.v1, x.v2, x.v3]] 0 0, .int .i64 k, .agg [.int .i64 a, .int .i64 b]] = (x, k, a, b) := haE_dec x k a b
noncomputable abbrev lacksS : PSpec := mkP hiE (fun d => d.1.Small) fun d => prs (d.1.lacks d.2)
noncomputable abbrev E106 : Env := { P := Tryz.prog, fn := tbl [(24, .pure haS)], own := [], key := 10600, nt := 40 }
theorem b106 : PureBody E106 [] Tryz.f106 lacksS := by
  refine pb ?_
  rintro ⟨x, m⟩ hsm
  simp only at hsm
  have hsm1 := hsm.ps
  have hsm2 := hsm.kinds
  have h92 : x.ps.length ≤ 9223372036854775807 := by omega
  simp -dsimp [Tryz.f106, E106, HI.v]
  repeat' (first | omega | (simp -dsimp [E106, ri, cellp, ints, HI.v]) | (refine Also.intro ?_ fun _ => ?_) | (refine Hold.intro fun _ => ?_) | (refine And.intro ?_ ?_))
  refine awp_loop_g [(4, 10636, 2, 41)] rfl (by simp) [15, 16, 17, 18, 6, 5, 19, 20, 21, 22, 23, 7, 24, 25, 26, 27, 28, 29, 30, 31, 32, 33, 34, 35, 36, 4, 37, 38, 14] (fun k : Fin (x.r.kinds.length + 1) => [(14, (true, .int .i64 (k.1 : Nat))), (4, (true, .bsl 10636 0 (x.lackTo m k.1).length))])
    (fun k => hps [(10636, { base := 0, blks := [{ z := 2, els := (x.lackTo m k.1).map cycV, ty := 41 }] }), (10606, { base := k.1, blks := [] })] noH) (fun k => x.r.kinds.length - k.1) ⟨0, by omega⟩ ?_ ?_ ?_
  · simp [okAll, okv, HI.lackTo]
  · exact (by (try simp -dsimp only [hpush_noH, hpush_hps, hps_over]); refine hle_hps ?_; simp -dsimp [allK, HI.lackTo]; repeat' (first | (refine And.intro ?_ ?_) | (refine sLe.same ?_ ?_ <;> (simp; done)) | (refine sLe.clear ?_ ?_ <;> (first | (simp; done) | (simp; omega))) | (refine sLe.drop 1 ?_ ?_ ?_ <;> (simp; done))))
  rintro ⟨k, hk⟩
  simp only
  by_cases hk1 : k < x.r.kinds.length
  · have hki : (k : Int) < x.r.kinds.length := by omega
    have wk : IntKind.wrap .i64 ((k : Int) + 1) = (k + 1 : Nat) := wrap_id (by omega) (by omega)
    obtain ⟨kd, hkd, hkd'⟩ := get_ex hk1
    have hT : x.lackTo m (k + 1) = x.lackTo m k ++ x.lackK m k (x.places k) := rfl
    have hpl : x.places k = kd.places.toNat := by simp [HI.places, List.getD, hkd]
    have hTl := lackTo_len hsm m k
    have hpk := places_le hsm k
    rw [hpl] at hT hpk
    generalize x.lackTo m k = T at *
    generalize hpn : kd.places.toNat = pn at *
    simp -dsimp [hki]
    repeat' (first | omega | (simp -dsimp [E106, ri, cellp, ints, hki, hk1, hkd, hkd', wk, Kd.row]) | (refine Also.intro ?_ fun _ => ?_) | (refine Hold.intro fun _ => ?_) | (refine And.intro ?_ ?_))
    refine awp_loop [22, 23, 7, 24, 25, 26, 27, 28, 29, 30, 31, 32, 33, 34, 35, 36, 4, 37, 21] (fun j : Fin (pn + 1) => [(21, (true, .int .i64 (j.1 : Nat))), (4, (true, .bsl 10636 0 (T ++ x.lackK m k j.1).length))])
      (fun j => hps [(10636, { base := 0, blks := [{ z := 2, els := (T ++ x.lackK m k j.1).map cycV, ty := 41 }] }), (10606, { base := k + 1, blks := [] })] noH) (fun j => pn - j.1) ⟨0, by omega⟩ ?_ ?_ ?_
    · simp [okAll, okv, HI.lackK]
    · exact (by (try simp -dsimp only [hpush_noH, hpush_hps, hps_over]); refine hle_hps ?_; simp -dsimp [allK, HI.lackK]; repeat' (first | (refine And.intro ?_ ?_) | (refine sLe.same ?_ ?_ <;> (simp; done)) | (refine sLe.clear ?_ ?_ <;> (first | (simp; done) | (simp; omega))) | (refine sLe.drop 1 ?_ ?_ ?_ <;> (simp; done))))
    rintro ⟨j, hj⟩
    simp only
    by_cases hj1 : j < pn
    · have hji : (j : Int) < kd.places := by omega
      have wj : IntKind.wrap .i64 ((j : Int) + 1) = (j + 1 : Nat) := wrap_id (by omega) (by omega)
      have hL : x.lackK m k (j + 1) = if x.emp m k j = true then x.lackK m k j ++ [((k : Int), (j : Int))] else x.lackK m k j := rfl
      have hLl := lackK_len x m k j
      have hem : x.emp m k j = decide (x.at k m j < 0) := rfl
      generalize x.lackK m k j = L at *
      by_cases he : x.at k m j < 0
      · rw [hem, decide_eq_true he, if_pos rfl] at hL
        have hb8 : (T.length + L.length + 1) * 16 ≤ 140737488355328 := by omega
        simp -dsimp [hji]
        repeat' (first | omega | (simp -dsimp [E106, ri, cellp, ints, hji, HI.v, haE_dec', h92, he, wj, hb8, cycV]) | (refine Also.intro ?_ fun _ => ?_) | (refine Hold.intro fun _ => ?_) | (refine And.intro ?_ ?_))
        refine ⟨⟨j + 1, by omega⟩, tle_chain rfl ?_, (by (try simp -dsimp only [hpush_noH, hpush_hps, hps_over]); refine hle_hps ?_; simp -dsimp [allK, hL, cycV]; repeat' (first | (refine And.intro ?_ ?_) | (refine sLe.same ?_ ?_ <;> (simp; done)) | (refine sLe.clear ?_ ?_ <;> (first | (simp; done) | (simp; omega))) | (refine sLe.drop 1 ?_ ?_ ?_ <;> (simp; done)))), by simp only; omega⟩
        simp [okAll, okv, hL, Nat.add_assoc]
      · rw [hem, decide_eq_false he, if_neg (by simp)] at hL
        simp -dsimp [hji]
        repeat' (first | omega | (simp -dsimp [E106, ri, cellp, ints, hji, HI.v, haE_dec', h92, he, wj, cycV]) | (refine Also.intro ?_ fun _ => ?_) | (refine Hold.intro fun _ => ?_) | (refine And.intro ?_ ?_))
        refine ⟨⟨j + 1, by omega⟩, tle_chain rfl ?_, (by (try simp -dsimp only [hpush_noH, hpush_hps, hps_over]); refine hle_hps ?_; simp -dsimp [allK, hL, cycV]; repeat' (first | (refine And.intro ?_ ?_) | (refine sLe.same ?_ ?_ <;> (simp; done)) | (refine sLe.clear ?_ ?_ <;> (first | (simp; done) | (simp; omega))) | (refine sLe.drop 1 ?_ ?_ ?_ <;> (simp; done)))), by simp only; omega⟩
        simp [okAll, okv, hL]
    · have hje : j = pn := by omega
      have hjn : ¬ (j : Int) < kd.places := by omega
      simp -dsimp [hjn]
      repeat' (first | omega | (simp -dsimp [E106, ri, cellp, ints, hjn, wk]) | (refine Also.intro ?_ fun _ => ?_) | (refine Hold.intro fun _ => ?_) | (refine And.intro ?_ ?_))
      refine ⟨⟨k + 1, by omega⟩, tle_kept (kept_upds rfl (kept_forget rfl (kept_upds rfl kept_base))) ?_, (by (try simp -dsimp only [hpush_noH, hpush_hps, hps_over]); refine hle_hps ?_; simp -dsimp [allK, hT, hje]; repeat' (first | (refine And.intro ?_ ?_) | (refine sLe.same ?_ ?_ <;> (simp; done)) | (refine sLe.clear ?_ ?_ <;> (first | (simp; done) | (simp; omega))) | (refine sLe.drop 1 ?_ ?_ ?_ <;> (simp; done)))), by simp only; omega⟩
      simp [okAll, okv, hT, hje]
  · have hkn : ¬ (k : Int) < x.r.kinds.length := by omega
    have hke : k = x.r.kinds.length := by omega
    subst hke
    simp -dsimp [hkn]
    repeat' (first | omega | (simp -dsimp [E106, ri, cellp, ints, hkn, HI.lacks, prs]) | (refine Also.intro ?_ fun _ => ?_) | (refine Hold.intro fun _ => ?_) | (refine And.intro ?_ ?_))
theorem ok106 : FnOK Tryz.prog 106 (.pure lacksS) := pure_fn (E := E106) rfl (.cons ok24 .nil) (ok := []) (fn := Tryz.f106) (by kernel_rfl) (by kernel_rfl) (by kernel_rfl) (by kernel_rfl) rfl (fun _ _ => by simp) b106
theorem hpE_dec' (x : HI) (p : PS) : decC hpE [.ip 9 [[.sl 3 (x.r.kinds.map Kd.row), .sl 4 (x.r.parts.map Pt.row), .int .i64 x.r.machines, .sl 2 (x.r.orders.map Od.row), ptsI x.ps, .sl 1 (x.iss.map rb), x.v1, x.v2, x.v3]] 0 0, .ip 8 [[.int .i64 p.kind, .int .i64 p.hours, .int .i64 p.cycles, .bool p.known, .int .i64 p.a, .int .i64 p.b, .sl 1 (p.since.map ri), .sl 1 (p.chk.map rb)]] 0 0] = (x, p) := hpE_dec x p
theorem hiE_dec' (x : HI) (n : Int) : decC hiE [.ip 9 [[.sl 3 (x.r.kinds.map Kd.row), .sl 4 (x.r.parts.map Pt.row), .int .i64 x.r.machines, .sl 2 (x.r.orders.map Od.row), ptsI x.ps, .sl 1 (x.iss.map rb), x.v1, x.v2, x.v3]] 0 0, .int .i64 n] = (x, n) := hiE_dec x n
/-- The least of what the parts in a machine can still fly; -1 if one of them cannot fly the cycles. -/
def HI.longG (x : HI) (m cyc : Int) : List PS → Int → Int
  | [], most => most
  | p :: r, most => if p.a = m then (if x.leftC p < cyc then -1 else x.longG m cyc r (imin most (x.leftT p))) else x.longG m cyc r most
def HI.longest (x : HI) (m cyc : Int) : Int := if x.lacks m = [] then x.longG m cyc x.ps 100 else -1
@[simp] def hmE (d : HI × Int × Int) : List V := [d.1.v, .int .i64 d.2.1, .int .i64 d.2.2]
theorem hmE_inj (a b : HI × Int × Int) (h : hmE a = hmE b) : a = b := by
  obtain ⟨x, a1, a2⟩ := a
  obtain ⟨y, b1, b2⟩ := b
  simp only [hmE, List.cons.injEq, V.int.injEq, true_and, and_true] at h
  rw [HI.v_inj _ _ h.1, h.2.1, h.2.2]
theorem hmE_dec (x : HI) (m c : Int) : decC hmE [x.v, .int .i64 m, .int .i64 c] = (x, m, c) := decC_eq hmE_inj (x, m, c)
noncomputable abbrev longestS : PSpec := mkP hmE (fun d => d.1.Small ∧ ∀ p ∈ d.1.ps, d.1.Fit p) fun d => .int .i64 (d.1.longest d.2.1 d.2.2)
structure LgI (n : Nat) (P : Nat → Int → Prop) where
  k : Nat
  most : Int
  hk : k ≤ n
  h : P k most
noncomputable abbrev E62 : Env := { P := Tryz.prog, fn := tbl [(106, .pure lacksS), (107, .pure leftS)], own := [], key := 6200, nt := 47 }
theorem b62 : PureBody E62 [] Tryz.f62 longestS := by
  refine pb ?_
  rintro ⟨x, m, cyc⟩ ⟨hsm, hfit⟩
  simp only at hsm hfit
  have hsm1 := hsm.ps
  by_cases hl : x.lacks m = []
  case neg =>
    have hl' : (0 : Int) < (x.lacks m).length := by
      have : 0 < (x.lacks m).length := List.length_pos_iff.2 hl
      omega
    have hl2 : 0 < (x.lacks m).length := by omega
    simp -dsimp [Tryz.f62, E62, HI.v]
    repeat' (first | omega | (simp -dsimp [E62, ri, cellp, ints, HI.v, hiE_dec', hsm, hl, hl', hl2, prs, HI.longest]) | (refine Also.intro ?_ fun _ => ?_) | (refine Hold.intro fun _ => ?_) | (refine And.intro ?_ ?_))
  simp -dsimp [Tryz.f62, E62, HI.v]
  repeat' (first | omega | (simp -dsimp [E62, ri, cellp, ints, HI.v, hiE_dec', hsm, hl, prs]) | (refine Also.intro ?_ fun _ => ?_) | (refine Hold.intro fun _ => ?_) | (refine And.intro ?_ ?_))
  refine awp_loop [23, 24, 25, 9, 26, 27, 28, 29, 30, 31, 32, 34, 35, 36, 33, 37, 38, 10, 11, 39, 40, 41, 6, 42, 43, 44, 7, 45, 22] (fun q : LgI x.ps.length fun k most => x.longG m cyc (x.ps.drop k) most = x.longest m cyc => [(22, (true, .int .i64 (q.k : Nat))), (7, (true, .int .i64 q.most))]) (fun _ => noH) (fun q => x.ps.length - q.k) ⟨0, 100, by simp, by simp [HI.longest, hl]⟩ ?_ (HLe.refl _) ?_
  · simp [okAll, okv]
  rintro ⟨k, most, hk, hq⟩
  simp only at hk hq ⊢
  by_cases hk1 : k < x.ps.length
  · have hki : (k : Int) < x.ps.length := by omega
    have hp := ptsI_ne (ps := x.ps) (by omega)
    have wk : IntKind.wrap .i64 ((k : Int) + 1) = (k + 1 : Nat) := wrap_id (by omega) (by omega)
    obtain ⟨p, hpk, hpk'⟩ := get_ex hk1
    have hd : x.ps.drop k = p :: x.ps.drop (k + 1) := by rw [List.drop_eq_getElem_cons hk1, hpk']
    have hdd := fun p : PS => hpE_dec' x p
    simp only [hp, ptI, PS.irow] at hdd
    have hf := hfit p (hpk' ▸ List.getElem_mem hk1)
    rw [hd, HI.longG] at hq
    by_cases hm : p.a = m
    · rw [if_pos hm] at hq
      subst hm
      by_cases hc : x.leftC p < cyc
      · rw [if_pos hc] at hq
        simp -dsimp [hki, hp]
        repeat' (first | omega | (simp -dsimp [E62, ri, cellp, ints, hki, hp, hpk, hpk', hk1, ptI, PS.irow, HI.v, hdd, hf, hc, hq.symm]) | (refine Also.intro ?_ fun _ => ?_) | (refine Hold.intro fun _ => ?_) | (refine And.intro ?_ ?_))
      · rw [if_neg hc] at hq
        simp -dsimp [hki, hp]
        repeat' (first | omega | (simp -dsimp [E62, ri, cellp, ints, hki, hp, hpk, hpk', hk1, ptI, PS.irow, HI.v, hdd, hf, hc, wk]) | (refine Also.intro ?_ fun _ => ?_) | (refine Hold.intro fun _ => ?_) | (refine And.intro ?_ ?_))
        refine ⟨⟨k + 1, imin most (x.leftT p), by omega, hq⟩, tle_chain rfl ?_, HLe.refl _, by simp only; omega⟩
        simp [okAll, okv]
        by_cases hlt : x.leftT p < most <;> simp [imin, hlt]
    · rw [if_neg hm] at hq
      simp -dsimp [hki, hp]
      repeat' (first | omega | (simp -dsimp [E62, ri, cellp, ints, hki, hp, hpk, hpk', hk1, hm, ptI, PS.irow, wk]) | (refine Also.intro ?_ fun _ => ?_) | (refine Hold.intro fun _ => ?_) | (refine And.intro ?_ ?_))
      refine ⟨⟨k + 1, most, by omega, hq⟩, tle_chain rfl ?_, HLe.refl _, by simp only; omega⟩
      simp [okAll, okv]
  · have hkn : ¬ (k : Int) < x.ps.length := by omega
    have hke : k = x.ps.length := by omega
    subst hke
    simp only [List.drop_length, HI.longG] at hq
    simp -dsimp [hkn]
    repeat' (first | omega | (simp -dsimp [E62, ri, cellp, ints, hkn, hq]) | (refine Also.intro ?_ fun _ => ?_) | (refine Hold.intro fun _ => ?_) | (refine And.intro ?_ ?_))
theorem ok62 : FnOK Tryz.prog 62 (.pure longestS) := pure_fn (E := E62) rfl (.cons ok106 (.cons ok107 .nil)) (ok := []) (fn := Tryz.f62) (by kernel_rfl) (by kernel_rfl) (by kernel_rfl) (by kernel_rfl) rfl (fun _ _ => by simp) b62
end Go.Sx
end
section
/- Parts: whether a register is valid. No conditions. -/
set_option linter.unusedSimpArgs false
set_option linter.unusedSectionVars false
set_option maxRecDepth 100000
set_option maxHeartbeats 1000000
namespace Go.Sx
open Go.Proofs
attribute [local irreducible] HLe
attribute [local simp] hps_app

def Reg.kindOk (r : Reg) (n : Int) : Bool := withinB n 0 (wsub r.kinds.length 1)
def Kd.bad (k : Kd) : Bool := !withinB k.hours 1 100000 || !withinB k.cycles 1 100000 || !withinB k.places 0 4
def Reg.badP (r : Reg) (p : Pt) : Bool := !r.kindOk p.kind || !withinB p.hours 0 100000 || !withinB p.cycles 0 100000
def Reg.badO (r : Reg) (o : Od) : Bool := !r.kindOk o.kind || !withinB o.within 0 100000
def regI (r : Reg) : V := .ip 4 [r.row] 0 0
@[simp] def kkE (d : Reg × Int) : List V := [.int .i64 d.2, regI d.1]
theorem kkE_inj (a b : Reg × Int) (h : kkE a = kkE b) : a = b := by
  simp only [kkE, regI, List.cons.injEq, V.int.injEq, V.ip.injEq, true_and, and_true] at h
  exact Prod.ext (Reg.row_inj _ _ h.2) h.1
theorem kkE_dec (r : Reg) (n : Int) : decC kkE [.int .i64 n, .ip 4 [[.sl 3 (r.kinds.map Kd.row), .sl 4 (r.parts.map Pt.row), .int .i64 r.machines, .sl 2 (r.orders.map Od.row)]] 0 0] = (r, n) := decC_eq kkE_inj (r, n)
noncomputable abbrev kkS : PSpec := mkP kkE (fun _ => True) fun d => .bool (d.1.kindOk d.2)
noncomputable abbrev E80 : Env := { P := Tryz.prog, fn := tbl [(20, .pure withinS)], own := [], key := 8000, nt := 10 }
theorem b80 : PureBody E80 [] Tryz.f80 kkS := by
  refine pb ?_
  rintro ⟨r, n⟩ _
  simp -dsimp [Tryz.f80, E80, regI, Reg.row, Reg.kindOk, wsub]
  repeat' (first | omega | (simp -dsimp [E80, ri, cellp, ints, Reg.kindOk, wsub]) | (refine Also.intro ?_ fun _ => ?_) | (refine Hold.intro fun _ => ?_) | (refine And.intro ?_ ?_))
theorem ok80 : FnOK Tryz.prog 80 (.pure kkS) := pure_fn (E := E80) rfl (.cons ok20 .nil) (ok := []) (fn := Tryz.f80) (by kernel_rfl) (by kernel_rfl) (by kernel_rfl) (by kernel_rfl) rfl (fun _ _ => by simp) b80
@[simp] def kdE (d : Kd) : List V := [.agg d.row]
theorem kdE_inj (a b : Kd) (h : kdE a = kdE b) : a = b := Kd.row_inj _ _ (by simpa using h)
theorem kdE_dec (k : Kd) : decC kdE [.agg [.int .i64 k.hours, .int .i64 k.cycles, .int .i64 k.places]] = k := decC_eq kdE_inj k
noncomputable abbrev kdS : PSpec := mkP kdE (fun _ => True) fun d => .bool d.bad
noncomputable abbrev E82 : Env := { P := Tryz.prog, fn := tbl [(20, .pure withinS)], own := [], key := 8200, nt := 19 }
theorem b82 : PureBody E82 [] Tryz.f82 kdS := by
  refine pb ?_
  rintro k _
  simp -dsimp [Tryz.f82, E82, Kd.row, Kd.bad]
theorem ok82 : FnOK Tryz.prog 82 (.pure kdS) := pure_fn (E := E82) rfl (.cons ok20 .nil) (ok := []) (fn := Tryz.f82) (by kernel_rfl) (by kernel_rfl) (by kernel_rfl) (by kernel_rfl) rfl (fun _ _ => by simp) b82
@[simp] def kdsE (d : List Kd) : List V := [.sl 3 (d.map Kd.row), .fn 82 []]
theorem kdsE_inj (a b : List Kd) (h : kdsE a = kdsE b) : a = b := map_inj Kd.row_inj (by simpa using h)
theorem kdsE_dec (l : List Kd) : decC kdsE [.sl 3 (l.map Kd.row), .fn 82 []] = l := decC_eq kdsE_inj l
noncomputable abbrev kdsS : PSpec := mkP kdsE (fun d => d.length ≤ 1000000) fun d => .int .i64 (idxZ d Kd.bad)
noncomputable abbrev E129 : Env := { P := Tryz.prog, fn := tbl [(82, .pure kdS)], own := [], key := 12900, nt := 19 }
theorem b129 : PureBody E129 [] Tryz.f129 kdsS := by
  refine pb ?_
  rintro l hl
  simp -dsimp [Tryz.f129, E129]
  refine awp_loop [9, 10, 5, 11, 12, 13, 14, 15, 16, 17, 4, 18, 8] (fun k : { k : Nat // k ≤ l.length ∧ ∀ j (h : j < l.length), j < k → l[j].bad = false } => [(8, (true, .int .i64 k.1))]) (fun _ => noH) (fun k => l.length - k.1) ⟨0, by omega, fun _ _ h => by omega⟩ ?_ (HLe.refl _) ?_
  · simp [okAll, okv]
  rintro ⟨k, hk, hall⟩
  by_cases hk1 : k < l.length
  · have hki : (k : Int) < l.length := by omega
    have wk : IntKind.wrap .i64 ((k : Int) + 1) = (k + 1 : Nat) := wrap_id (by omega) (by omega)
    cases hw : l[k].bad
    · simp -dsimp [hki]
      repeat' (first | omega | (simp -dsimp [E129, ri, cellp, ints, hki, hk1, hl, hw, wk, Kd.row, kdE_dec]) | (refine Also.intro ?_ fun _ => ?_) | (refine Hold.intro fun _ => ?_) | (refine And.intro ?_ ?_))
      refine ⟨k + 1, tle_chain rfl ?_, HLe.refl _, ⟨by omega, fun j h hj => ?_⟩, by omega⟩
      · simp [okAll, okv]
      · by_cases hjk : j = k
        · subst hjk; exact hw
        · exact hall j h (by omega)
    · have hz := idxZ_at l Kd.bad hk1 hw hall
      simp -dsimp [hki]
      repeat' (first | omega | (simp -dsimp [E129, ri, cellp, ints, hki, hk1, hl, hw, wk, hz, Kd.row, kdE_dec]) | (refine Also.intro ?_ fun _ => ?_) | (refine Hold.intro fun _ => ?_) | (refine And.intro ?_ ?_))
  · have hkn : ¬ (k : Int) < l.length := by omega
    have hz := idxZ_none l Kd.bad (fun j h => hall j h (by omega))
    simp -dsimp [hkn]
    repeat' (first | omega | (simp -dsimp [E129, ri, cellp, ints, hkn, hz]) | (refine Also.intro ?_ fun _ => ?_) | (refine Hold.intro fun _ => ?_) | (refine And.intro ?_ ?_))
theorem ok129 : FnOK Tryz.prog 129 (.pure kdsS) := pure_fn (E := E129) rfl (.cons ok82 .nil) (ok := []) (fn := Tryz.f129) (by kernel_rfl) (by kernel_rfl) (by kernel_rfl) (by kernel_rfl) rfl (fun _ _ => by simp) b129
noncomputable abbrev kdcS : PSpec := mkP kdsE (fun d => d.length ≤ 1000000) fun d => .bool (d.any Kd.bad)
noncomputable abbrev E81 : Env := { P := Tryz.prog, fn := tbl [(129, .pure kdsS)], own := [], key := 8100, nt := 9 }
theorem b81 : PureBody E81 [] Tryz.f81 kdcS := by
  refine pb ?_
  rintro l hl
  have hz := idxZ_any l Kd.bad
  simp -dsimp [Tryz.f81, E81]
  repeat' (first | omega | (simp -dsimp [E81, ri, cellp, ints, hl, kdsE_dec, hz]) | (refine Also.intro ?_ fun _ => ?_) | (refine Hold.intro fun _ => ?_) | (refine And.intro ?_ ?_))
theorem ok81 : FnOK Tryz.prog 81 (.pure kdcS) := pure_fn (E := E81) rfl (.cons ok129 .nil) (ok := []) (fn := Tryz.f81) (by kernel_rfl) (by kernel_rfl) (by kernel_rfl) (by kernel_rfl) rfl (fun _ _ => by simp) b81
/-! the register and the function that looks at it, in the heap -/
def vlL (r : Reg) : List (Nat × Site) := [(4801, { base := 0, blks := [{ z := 4, els := [r.row], ty := 26 }] }), (4803, { base := 0, blks := [{ z := 1, els := [[.fn 80 [.bptr 4801 0 1 0 0]]], ty := 78, cl := false }] })]
theorem vlL_keys (r : Reg) : (vlL r).map (·.1) = [4801, 4803] := rfl
theorem vlL_inj (r r' : Reg) (h : ∀ k ∈ [4801, 4803], hps (vlL r) noH k = hps (vlL r') noH k) : r = r' := by
  have h1 := congrArg Site.blks (h 4801 (by simp))
  simp only [vlL, hps_cons] at h1
  exact Reg.row_inj _ _ (by simpa using h1)
section
variable (s : Reg) (h : Hp)
@[simp] theorem v4801 : Ob vlL s h 4801 = { base := 0, blks := [{ z := 4, els := [[.sl 3 (s.kinds.map Kd.row), .sl 4 (s.parts.map Pt.row), .int .i64 s.machines, .sl 2 (s.orders.map Od.row)]], ty := 26 }] } := rfl
@[simp] theorem v4803 : Ob vlL s h 4803 = { base := 0, blks := [{ z := 1, els := [[.fn 80 [.bptr 4801 0 1 0 0]]], ty := 78, cl := false }] } := rfl
@[simp] theorem v_ne {k : Nat} (hn : [4801, 4803].contains k = false) : Ob vlL s h k = h k := ob_ne vlL_keys hn
@[simp] theorem v_v (s' : Reg) : Ob vlL s (Ob vlL s' h) = Ob vlL s h := ob_ob vlL_keys _ _ _
@[simp] theorem v_hget (k i : Nat) : hget (Ob vlL s h) k i = if i < (Ob vlL s h k).base then none else (Ob vlL s h k).blks[i - (Ob vlL s h k).base]? := rfl
@[simp] theorem v_hnext (k : Nat) : hnext (Ob vlL s h) k = (Ob vlL s h k).base + (Ob vlL s h k).blks.length := rfl
@[simp] theorem v_hpush {k : Nat} (hn : [4801, 4803].contains k = false) (B : Blk) : hpush (Ob vlL s h) k B = Ob vlL s (hpush h k B) := ob_hpush vlL_keys hn B
@[simp] theorem v_over {k : Nat} {S : Site} {L : List (Nat × Site)} (hn : (((k, S) :: L).all fun p => ![4801, 4803].contains p.1) = true) : hps ((k, S) :: L) (Ob vlL s h) = Ob vlL s (hps ((k, S) :: L) h) := ob_over vlL_keys hn
end
@[simp] def ptE (r : Reg) (p : Pt) : List V := [.agg p.row, .bptr 4803 0 1 0 0]
noncomputable abbrev ptS : HSpec := obS vlL [4801, 4803] ptE (fun _ _ h => Blank [8402] h) (fun r p _ => .bool (r.badP p)) (fun r _ => r) fun _ _ h => bmp [8402] 1 h
theorem pt_go (r : Reg) (p : Pt) (h : Hp) : ptS.go [.agg p.row, .bptr 4803 0 1 0 0] (Ob vlL r h) = ⟨Blank [8402] (Ob vlL r h), .bool (r.badP p), Ob vlL r (bmp [8402] 1 (Ob vlL r h))⟩ :=
  obS_go vlL_keys vlL_inj (fun s d d' h => Pt.row_inj _ _ (by simpa using h)) r p h
noncomputable abbrev E84 : Env := { P := Tryz.prog, fn := tbl [(20, .pure withinS), (80, .pure kkS)], own := [], key := 8400, nt := 21 }
theorem b84 : HeapBody E84 [] Tryz.f84 ptS := by
  intro args h hc
  obtain ⟨r, p, hh, rfl, hp, hgo⟩ := obS_inv vlL_keys hc
  rw [hgo]
  clear hgo hc
  obtain ⟨h0, rfl⟩ : ∃ h0, h = Ob vlL r h0 := ⟨h, hh⟩
  clear hh
  have hb : h0 8402 = { base := (h0 8402).base, blks := [] } := by simpa [Blank] using hp
  clear hp
  have hh0 : h0 = hps [(8402, { base := (h0 8402).base, blks := [] })] h0 := Blank.self (own := [8402]) (by simpa [Blank] using hb)
  clear hb
  generalize (h0 8402).base = b at hh0
  rw [hh0]
  clear hh0
  simp -dsimp [Tryz.f84, E84, Pt.row, bmp, Reg.badP]
  cases h1 : r.kindOk p.kind <;> cases h2 : withinB p.hours 0 100000 <;> cases h3 : withinB p.cycles 0 100000 <;> repeat' (first | omega | (simp -dsimp [E84, ri, cellp, ints, h1, h2, h3, Pt.row, kkE_dec, regI, Reg.row]) | (refine Also.intro ?_ fun _ => ?_) | (refine Hold.intro fun _ => ?_) | (refine And.intro ?_ ?_))
  all_goals exact (by (try simp -dsimp only [hpush_hps, hps_app, List.cons_append, List.nil_append, hps_over]); refine ob_hle ?_; simp -dsimp [allK, ]; repeat' (first | (refine And.intro ?_ ?_) | (refine sLe.same ?_ ?_ <;> (simp; done)) | (refine sLe.clear ?_ ?_ <;> (first | (simp; done) | (simp; omega))) | (refine sLe.drop 1 ?_ ?_ ?_ <;> (simp; done))))
theorem ok84 : FnOK Tryz.prog 84 (.heap ptS) := heap_fn (E := E84) rfl (.cons ok20 (.cons ok80 .nil)) (ok := []) (fn := Tryz.f84) (by kernel_rfl) (by kernel_rfl) (by kernel_rfl) (by kernel_rfl) rfl (fun args h hc => by obtain ⟨_, _, _, rfl, _⟩ := obS_inv vlL_keys hc; simp) b84
@[simp] def ptsE (r : Reg) (d : List Pt) : List V := [.sl 4 (d.map Pt.row), .fn 84 [.bptr 4803 0 1 0 0]]
noncomputable abbrev ptsS : HSpec := obS vlL [4801, 4803] ptsE (fun _ d h => Blank [8402] h ∧ d.length ≤ 1000000) (fun r d _ => .int .i64 (idxZ d r.badP)) (fun r _ => r) fun _ d h => bmp [8402] d.length h
theorem pts_go (r : Reg) (d : List Pt) (h : Hp) : ptsS.go [.sl 4 (d.map Pt.row), .fn 84 [.bptr 4803 0 1 0 0]] (Ob vlL r h) = ⟨Blank [8402] (Ob vlL r h) ∧ d.length ≤ 1000000, .int .i64 (idxZ d r.badP), Ob vlL r (bmp [8402] d.length (Ob vlL r h))⟩ :=
  obS_go vlL_keys vlL_inj (fun s d d' h => map_inj Pt.row_inj (by simpa using h)) r d h
theorem pt_go' (r : Reg) (p : Pt) (h : Hp) : ptS.go [.agg [.int .i64 p.kind, .int .i64 p.hours, .int .i64 p.cycles, .bool p.known], .bptr 4803 0 1 0 0] (Ob vlL r h) = ⟨Blank [8402] (Ob vlL r h), .bool (r.badP p), Ob vlL r (bmp [8402] 1 (Ob vlL r h))⟩ := pt_go r p h
noncomputable abbrev E130 : Env := { P := Tryz.prog, fn := tbl [(84, .heap ptS)], own := [], key := 13000, nt := 19 }
theorem b130 : HeapBody E130 [] Tryz.f130 ptsS := by
  intro args h hc
  obtain ⟨r, l, hh, rfl, ⟨hp, hl⟩, hgo⟩ := obS_inv vlL_keys hc
  rw [hgo]
  clear hgo hc
  obtain ⟨h0, rfl⟩ : ∃ h0, h = Ob vlL r h0 := ⟨h, hh⟩
  clear hh
  have hb : h0 8402 = { base := (h0 8402).base, blks := [] } := by simpa [Blank] using hp
  clear hp
  have hh0 : h0 = hps [(8402, { base := (h0 8402).base, blks := [] })] h0 := Blank.self (own := [8402]) (by simpa [Blank] using hb)
  clear hb
  generalize (h0 8402).base = b at hh0
  rw [hh0]
  clear hh0
  simp -dsimp [Tryz.f130, E130, bmp]
  refine awp_loop [9, 10, 5, 11, 12, 13, 14, 15, 16, 17, 4, 18, 8] (fun k : { k : Nat // k ≤ l.length ∧ ∀ j (h : j < l.length), j < k → r.badP l[j] = false } => [(8, (true, .int .i64 k.1))]) (fun k => Ob vlL r (hps [(8402, { base := b + k.1, blks := [] })] h0)) (fun k => l.length - k.1) ⟨0, by omega, fun _ _ h => by omega⟩ ?_ (HLe.refl _) ?_
  · simp [okAll, okv]
  rintro ⟨k, hk, hall⟩
  by_cases hk1 : k < l.length
  · have hki : (k : Int) < l.length := by omega
    have wk : IntKind.wrap .i64 ((k : Int) + 1) = (k + 1 : Nat) := wrap_id (by omega) (by omega)
    cases hw : r.badP l[k]
    · simp -dsimp [hki]
      repeat' (first | omega | (simp -dsimp [E130, ri, cellp, ints, hki, hk1, hl, hw, wk, Pt.row, pt_go', Blank, bmp]) | (refine Also.intro ?_ fun _ => ?_) | (refine Hold.intro fun _ => ?_) | (refine And.intro ?_ ?_))
      refine ⟨k + 1, tle_chain rfl ?_, (by (try simp -dsimp only [hpush_hps, hps_app, List.cons_append, List.nil_append, hps_over]); refine ob_hle ?_; simp -dsimp [allK, ]; repeat' (first | (refine And.intro ?_ ?_) | (refine sLe.same ?_ ?_ <;> (simp; done)) | (refine sLe.clear ?_ ?_ <;> (first | (simp; done) | (simp; omega))) | (refine sLe.drop 1 ?_ ?_ ?_ <;> (simp; done)))), ⟨by omega, fun j h hj => ?_⟩, by omega⟩
      · simp [okAll, okv]
      · by_cases hjk : j = k
        · subst hjk; exact hw
        · exact hall j h (by omega)
    · have hz := idxZ_at l r.badP hk1 hw hall
      simp -dsimp [hki]
      repeat' (first | omega | (simp -dsimp [E130, ri, cellp, ints, hki, hk1, hl, hw, wk, hz, Pt.row, pt_go', Blank, bmp]) | (refine Also.intro ?_ fun _ => ?_) | (refine Hold.intro fun _ => ?_) | (refine And.intro ?_ ?_))
      exact (by (try simp -dsimp only [hpush_hps, hps_app, List.cons_append, List.nil_append, hps_over]); refine ob_hle ?_; simp -dsimp [allK, ]; repeat' (first | (refine And.intro ?_ ?_) | (refine sLe.same ?_ ?_ <;> (simp; done)) | (refine sLe.clear ?_ ?_ <;> (first | (simp; done) | (simp; omega))) | (refine sLe.drop 1 ?_ ?_ ?_ <;> (simp; done))))
  · have hkn : ¬ (k : Int) < l.length := by omega
    have hz := idxZ_none l r.badP (fun j h => hall j h (by omega))
    simp -dsimp [hkn]
    repeat' (first | omega | (simp -dsimp [E130, ri, cellp, ints, hkn, hz]) | (refine Also.intro ?_ fun _ => ?_) | (refine Hold.intro fun _ => ?_) | (refine And.intro ?_ ?_))
    exact (by (try simp -dsimp only [hpush_hps, hps_app, List.cons_append, List.nil_append, hps_over]); refine ob_hle ?_; simp -dsimp [allK, ]; repeat' (first | (refine And.intro ?_ ?_) | (refine sLe.same ?_ ?_ <;> (simp; done)) | (refine sLe.clear ?_ ?_ <;> (first | (simp; done) | (simp; omega))) | (refine sLe.drop 1 ?_ ?_ ?_ <;> (simp; done))))
theorem ok130 : FnOK Tryz.prog 130 (.heap ptsS) := heap_fn (E := E130) rfl (.cons ok84 .nil) (ok := []) (fn := Tryz.f130) (by kernel_rfl) (by kernel_rfl) (by kernel_rfl) (by kernel_rfl) rfl (fun args h hc => by obtain ⟨_, _, _, rfl, _⟩ := obS_inv vlL_keys hc; simp) b130
noncomputable abbrev ptcS : HSpec := obS vlL [4801, 4803] ptsE (fun _ d h => Blank [8402] h ∧ d.length ≤ 1000000) (fun r d _ => .bool (d.any r.badP)) (fun r _ => r) fun _ d h => bmp [8402] d.length h
theorem ptc_go (r : Reg) (d : List Pt) (h : Hp) : ptcS.go [.sl 4 (d.map Pt.row), .fn 84 [.bptr 4803 0 1 0 0]] (Ob vlL r h) = ⟨Blank [8402] (Ob vlL r h) ∧ d.length ≤ 1000000, .bool (d.any r.badP), Ob vlL r (bmp [8402] d.length (Ob vlL r h))⟩ :=
  obS_go vlL_keys vlL_inj (fun s d d' h => map_inj Pt.row_inj (by simpa using h)) r d h
noncomputable abbrev E83 : Env := { P := Tryz.prog, fn := tbl [(130, .heap ptsS)], own := [], key := 8300, nt := 9 }
theorem b83 : HeapBody E83 [] Tryz.f83 ptcS := by
  intro args h hc
  obtain ⟨r, l, hh, rfl, ⟨hp, hl⟩, hgo⟩ := obS_inv vlL_keys hc
  rw [hgo]
  clear hgo hc
  obtain ⟨h0, rfl⟩ : ∃ h0, h = Ob vlL r h0 := ⟨h, hh⟩
  clear hh
  have hz := idxZ_any l r.badP
  have hb : h0 8402 = { base := (h0 8402).base, blks := [] } := by simpa [Blank] using hp
  have hp' : Blank [8402] (Ob vlL r h0) := hp
  simp -dsimp [Tryz.f83, E83, bmp]
  repeat' (first | omega | (simp -dsimp [E83, ri, cellp, ints, pts_go, hp', hl, hz, bmp, hle_refl]) | (refine Also.intro ?_ fun _ => ?_) | (refine Hold.intro fun _ => ?_) | (refine And.intro ?_ ?_))
theorem ok83 : FnOK Tryz.prog 83 (.heap ptcS) := heap_fn (E := E83) rfl (.cons ok130 .nil) (ok := []) (fn := Tryz.f83) (by kernel_rfl) (by kernel_rfl) (by kernel_rfl) (by kernel_rfl) rfl (fun args h hc => by obtain ⟨_, _, _, rfl, _⟩ := obS_inv vlL_keys hc; simp) b83
@[simp] def odE (r : Reg) (p : Od) : List V := [.agg p.row, .bptr 4803 0 1 0 0]
noncomputable abbrev odS : HSpec := obS vlL [4801, 4803] odE (fun _ _ h => Blank [8602] h) (fun r p _ => .bool (r.badO p)) (fun r _ => r) fun _ _ h => bmp [8602] 1 h
theorem od_go (r : Reg) (p : Od) (h : Hp) : odS.go [.agg p.row, .bptr 4803 0 1 0 0] (Ob vlL r h) = ⟨Blank [8602] (Ob vlL r h), .bool (r.badO p), Ob vlL r (bmp [8602] 1 (Ob vlL r h))⟩ :=
  obS_go vlL_keys vlL_inj (fun s d d' h => Od.row_inj _ _ (by simpa using h)) r p h
noncomputable abbrev E86 : Env := { P := Tryz.prog, fn := tbl [(20, .pure withinS), (80, .pure kkS)], own := [], key := 8600, nt := 15 }
theorem b86 : HeapBody E86 [] Tryz.f86 odS := by
  intro args h hc
  obtain ⟨r, p, hh, rfl, hp, hgo⟩ := obS_inv vlL_keys hc
  rw [hgo]
  clear hgo hc
  obtain ⟨h0, rfl⟩ : ∃ h0, h = Ob vlL r h0 := ⟨h, hh⟩
  clear hh
  have hb : h0 8602 = { base := (h0 8602).base, blks := [] } := by simpa [Blank] using hp
  clear hp
  have hh0 : h0 = hps [(8602, { base := (h0 8602).base, blks := [] })] h0 := Blank.self (own := [8602]) (by simpa [Blank] using hb)
  clear hb
  generalize (h0 8602).base = b at hh0
  rw [hh0]
  clear hh0
  simp -dsimp [Tryz.f86, E86, Od.row, bmp, Reg.badO]
  cases h1 : r.kindOk p.kind <;> cases h2 : withinB p.within 0 100000 <;> repeat' (first | omega | (simp -dsimp [E86, ri, cellp, ints, h1, h2, Od.row, kkE_dec, regI, Reg.row]) | (refine Also.intro ?_ fun _ => ?_) | (refine Hold.intro fun _ => ?_) | (refine And.intro ?_ ?_))
  all_goals exact (by (try simp -dsimp only [hpush_hps, hps_app, List.cons_append, List.nil_append, hps_over]); refine ob_hle ?_; simp -dsimp [allK, ]; repeat' (first | (refine And.intro ?_ ?_) | (refine sLe.same ?_ ?_ <;> (simp; done)) | (refine sLe.clear ?_ ?_ <;> (first | (simp; done) | (simp; omega))) | (refine sLe.drop 1 ?_ ?_ ?_ <;> (simp; done))))
theorem ok86 : FnOK Tryz.prog 86 (.heap odS) := heap_fn (E := E86) rfl (.cons ok20 (.cons ok80 .nil)) (ok := []) (fn := Tryz.f86) (by kernel_rfl) (by kernel_rfl) (by kernel_rfl) (by kernel_rfl) rfl (fun args h hc => by obtain ⟨_, _, _, rfl, _⟩ := obS_inv vlL_keys hc; simp) b86
@[simp] def odsE (r : Reg) (d : List Od) : List V := [.sl 2 (d.map Od.row), .fn 86 [.bptr 4803 0 1 0 0]]
noncomputable abbrev odsS : HSpec := obS vlL [4801, 4803] odsE (fun _ d h => Blank [8602] h ∧ d.length ≤ 1000000) (fun r d _ => .int .i64 (idxZ d r.badO)) (fun r _ => r) fun _ d h => bmp [8602] d.length h
theorem ods_go (r : Reg) (d : List Od) (h : Hp) : odsS.go [.sl 2 (d.map Od.row), .fn 86 [.bptr 4803 0 1 0 0]] (Ob vlL r h) = ⟨Blank [8602] (Ob vlL r h) ∧ d.length ≤ 1000000, .int .i64 (idxZ d r.badO), Ob vlL r (bmp [8602] d.length (Ob vlL r h))⟩ :=
  obS_go vlL_keys vlL_inj (fun s d d' h => map_inj Od.row_inj (by simpa using h)) r d h
theorem od_go' (r : Reg) (p : Od) (h : Hp) : odS.go [.agg [.int .i64 p.kind, .int .i64 p.within], .bptr 4803 0 1 0 0] (Ob vlL r h) = ⟨Blank [8602] (Ob vlL r h), .bool (r.badO p), Ob vlL r (bmp [8602] 1 (Ob vlL r h))⟩ := od_go r p h
noncomputable abbrev E131 : Env := { P := Tryz.prog, fn := tbl [(86, .heap odS)], own := [], key := 13100, nt := 19 }
theorem b131 : HeapBody E131 [] Tryz.f131 odsS := by
  intro args h hc
  obtain ⟨r, l, hh, rfl, ⟨hp, hl⟩, hgo⟩ := obS_inv vlL_keys hc
  rw [hgo]
  clear hgo hc
  obtain ⟨h0, rfl⟩ : ∃ h0, h = Ob vlL r h0 := ⟨h, hh⟩
  clear hh
  have hb : h0 8602 = { base := (h0 8602).base, blks := [] } := by simpa [Blank] using hp
  clear hp
  have hh0 : h0 = hps [(8602, { base := (h0 8602).base, blks := [] })] h0 := Blank.self (own := [8602]) (by simpa [Blank] using hb)
  clear hb
  generalize (h0 8602).base = b at hh0
  rw [hh0]
  clear hh0
  simp -dsimp [Tryz.f131, E131, bmp]
  refine awp_loop [9, 10, 5, 11, 12, 13, 14, 15, 16, 17, 4, 18, 8] (fun k : { k : Nat // k ≤ l.length ∧ ∀ j (h : j < l.length), j < k → r.badO l[j] = false } => [(8, (true, .int .i64 k.1))]) (fun k => Ob vlL r (hps [(8602, { base := b + k.1, blks := [] })] h0)) (fun k => l.length - k.1) ⟨0, by omega, fun _ _ h => by omega⟩ ?_ (HLe.refl _) ?_
  · simp [okAll, okv]
  rintro ⟨k, hk, hall⟩
  by_cases hk1 : k < l.length
  · have hki : (k : Int) < l.length := by omega
    have wk : IntKind.wrap .i64 ((k : Int) + 1) = (k + 1 : Nat) := wrap_id (by omega) (by omega)
    cases hw : r.badO l[k]
    · simp -dsimp [hki]
      repeat' (first | omega | (simp -dsimp [E131, ri, cellp, ints, hki, hk1, hl, hw, wk, Od.row, od_go', Blank, bmp]) | (refine Also.intro ?_ fun _ => ?_) | (refine Hold.intro fun _ => ?_) | (refine And.intro ?_ ?_))
      refine ⟨k + 1, tle_chain rfl ?_, (by (try simp -dsimp only [hpush_hps, hps_app, List.cons_append, List.nil_append, hps_over]); refine ob_hle ?_; simp -dsimp [allK, ]; repeat' (first | (refine And.intro ?_ ?_) | (refine sLe.same ?_ ?_ <;> (simp; done)) | (refine sLe.clear ?_ ?_ <;> (first | (simp; done) | (simp; omega))) | (refine sLe.drop 1 ?_ ?_ ?_ <;> (simp; done)))), ⟨by omega, fun j h hj => ?_⟩, by omega⟩
      · simp [okAll, okv]
      · by_cases hjk : j = k
        · subst hjk; exact hw
        · exact hall j h (by omega)
    · have hz := idxZ_at l r.badO hk1 hw hall
      simp -dsimp [hki]
      repeat' (first | omega | (simp -dsimp [E131, ri, cellp, ints, hki, hk1, hl, hw, wk, hz, Od.row, od_go', Blank, bmp]) | (refine Also.intro ?_ fun _ => ?_) | (refine Hold.intro fun _ => ?_) | (refine And.intro ?_ ?_))
      exact (by (try simp -dsimp only [hpush_hps, hps_app, List.cons_append, List.nil_append, hps_over]); refine ob_hle ?_; simp -dsimp [allK, ]; repeat' (first | (refine And.intro ?_ ?_) | (refine sLe.same ?_ ?_ <;> (simp; done)) | (refine sLe.clear ?_ ?_ <;> (first | (simp; done) | (simp; omega))) | (refine sLe.drop 1 ?_ ?_ ?_ <;> (simp; done))))
  · have hkn : ¬ (k : Int) < l.length := by omega
    have hz := idxZ_none l r.badO (fun j h => hall j h (by omega))
    simp -dsimp [hkn]
    repeat' (first | omega | (simp -dsimp [E131, ri, cellp, ints, hkn, hz]) | (refine Also.intro ?_ fun _ => ?_) | (refine Hold.intro fun _ => ?_) | (refine And.intro ?_ ?_))
    exact (by (try simp -dsimp only [hpush_hps, hps_app, List.cons_append, List.nil_append, hps_over]); refine ob_hle ?_; simp -dsimp [allK, ]; repeat' (first | (refine And.intro ?_ ?_) | (refine sLe.same ?_ ?_ <;> (simp; done)) | (refine sLe.clear ?_ ?_ <;> (first | (simp; done) | (simp; omega))) | (refine sLe.drop 1 ?_ ?_ ?_ <;> (simp; done))))
theorem ok131 : FnOK Tryz.prog 131 (.heap odsS) := heap_fn (E := E131) rfl (.cons ok86 .nil) (ok := []) (fn := Tryz.f131) (by kernel_rfl) (by kernel_rfl) (by kernel_rfl) (by kernel_rfl) rfl (fun args h hc => by obtain ⟨_, _, _, rfl, _⟩ := obS_inv vlL_keys hc; simp) b131
noncomputable abbrev odcS : HSpec := obS vlL [4801, 4803] odsE (fun _ d h => Blank [8602] h ∧ d.length ≤ 1000000) (fun r d _ => .bool (d.any r.badO)) (fun r _ => r) fun _ d h => bmp [8602] d.length h
theorem odc_go (r : Reg) (d : List Od) (h : Hp) : odcS.go [.sl 2 (d.map Od.row), .fn 86 [.bptr 4803 0 1 0 0]] (Ob vlL r h) = ⟨Blank [8602] (Ob vlL r h) ∧ d.length ≤ 1000000, .bool (d.any r.badO), Ob vlL r (bmp [8602] d.length (Ob vlL r h))⟩ :=
  obS_go vlL_keys vlL_inj (fun s d d' h => map_inj Od.row_inj (by simpa using h)) r d h
noncomputable abbrev E85 : Env := { P := Tryz.prog, fn := tbl [(131, .heap odsS)], own := [], key := 8500, nt := 9 }
theorem b85 : HeapBody E85 [] Tryz.f85 odcS := by
  intro args h hc
  obtain ⟨r, l, hh, rfl, ⟨hp, hl⟩, hgo⟩ := obS_inv vlL_keys hc
  rw [hgo]
  clear hgo hc
  obtain ⟨h0, rfl⟩ : ∃ h0, h = Ob vlL r h0 := ⟨h, hh⟩
  clear hh
  have hz := idxZ_any l r.badO
  have hb : h0 8602 = { base := (h0 8602).base, blks := [] } := by simpa [Blank] using hp
  have hp' : Blank [8602] (Ob vlL r h0) := hp
  simp -dsimp [Tryz.f85, E85, bmp]
  repeat' (first | omega | (simp -dsimp [E85, ri, cellp, ints, ods_go, hp', hl, hz, bmp, hle_refl]) | (refine Also.intro ?_ fun _ => ?_) | (refine Hold.intro fun _ => ?_) | (refine And.intro ?_ ?_))
theorem ok85 : FnOK Tryz.prog 85 (.heap odcS) := heap_fn (E := E85) rfl (.cons ok131 .nil) (ok := []) (fn := Tryz.f85) (by kernel_rfl) (by kernel_rfl) (by kernel_rfl) (by kernel_rfl) rfl (fun args h hc => by obtain ⟨_, _, _, rfl, _⟩ := obS_inv vlL_keys hc; simp) b85
/-! valid -/
def Reg.valid (r : Reg) : Bool := decide (r.kinds.length ≤ 6) && (decide (r.parts.length ≤ 24) && (decide (r.orders.length ≤ 6) && (withinB r.machines 0 4 && (!r.kinds.any Kd.bad && (!r.parts.any r.badP && !r.orders.any r.badO)))))
@[simp] def regE (r : Reg) : List V := [.agg r.row]
theorem regE_inj (a b : Reg) (h : regE a = regE b) : a = b := Reg.row_inj _ _ (by simpa using h)
theorem regE_dec (r : Reg) : decC regE [.agg r.row] = r := decC_eq regE_inj r
noncomputable abbrev validS : PSpec := mkP regE (fun r => r.kinds.length ≤ 9223372036854775807 ∧ r.parts.length ≤ 9223372036854775807 ∧ r.orders.length ≤ 9223372036854775807) fun r => .bool r.valid
noncomputable abbrev E48 : Env := { P := Tryz.prog, fn := tbl [(20, .pure withinS), (81, .pure kdcS), (82, .pure kdS), (83, .heap ptcS), (84, .heap ptS), (85, .heap odcS), (86, .heap odS), (80, .pure kkS)], own := [], key := 4800, nt := 45 }
theorem b48 : PureBody E48 [] Tryz.f48 validS := by
  refine pb ?_
  rintro r ⟨b1, b2, b3⟩
  have hv : ∀ r : Reg, hps [(4803, { base := 0, blks := [{ z := 1, els := [[.fn 80 [.bptr 4801 0 1 0 0]]], ty := 78, cl := false }] }), (4801, { base := 0, blks := [{ z := 4, els := [[.sl 3 (r.kinds.map Kd.row), .sl 4 (r.parts.map Pt.row), .int .i64 r.machines, .sl 2 (r.orders.map Od.row)]], ty := 26 }] })] noH = Ob vlL r noH := by
    intro r; funext k; simp only [Ob, vlL, hps_cons, hps_nil, Reg.row]
    by_cases h1 : k = 4803
    · subst h1; simp
    · by_cases h2 : k = 4801
      · subst h2; simp
      · simp [h1, h2]
  by_cases c1 : r.kinds.length ≤ 6
  case neg =>
    have d1 : (6 : Int) < r.kinds.length := by omega
    have e1 : 6 < r.kinds.length := by omega
    simp -dsimp [Tryz.f48, E48, Reg.row]
    repeat' (first | omega | (simp -dsimp [E48, ri, cellp, ints, b1, b2, b3, d1, e1, Reg.row, Reg.valid]) | (refine Also.intro ?_ fun _ => ?_) | (refine Hold.intro fun _ => ?_) | (refine And.intro ?_ ?_))
  have d1 : ¬ (6 : Int) < r.kinds.length := by omega
  have e1 : ¬ 6 < r.kinds.length := by omega
  by_cases c2 : r.parts.length ≤ 24
  case neg =>
    have d2 : (24 : Int) < r.parts.length := by omega
    have e2 : 24 < r.parts.length := by omega
    simp -dsimp [Tryz.f48, E48, Reg.row]
    repeat' (first | omega | (simp -dsimp [E48, ri, cellp, ints, b1, b2, b3, d1, e1, c1, d2, e2, Reg.row, Reg.valid]) | (refine Also.intro ?_ fun _ => ?_) | (refine Hold.intro fun _ => ?_) | (refine And.intro ?_ ?_))
  have d2 : ¬ (24 : Int) < r.parts.length := by omega
  have e2 : ¬ 24 < r.parts.length := by omega
  by_cases c3 : r.orders.length ≤ 6
  case neg =>
    have d3 : (6 : Int) < r.orders.length := by omega
    have e3 : 6 < r.orders.length := by omega
    simp -dsimp [Tryz.f48, E48, Reg.row]
    repeat' (first | omega | (simp -dsimp [E48, ri, cellp, ints, b1, b2, b3, d1, e1, c1, d2, e2, c2, d3, e3, Reg.row, Reg.valid]) | (refine Also.intro ?_ fun _ => ?_) | (refine Hold.intro fun _ => ?_) | (refine And.intro ?_ ?_))
  have d3 : ¬ (6 : Int) < r.orders.length := by omega
  have e3 : ¬ 6 < r.orders.length := by omega
  cases c4 : withinB r.machines 0 4
  · simp -dsimp [Tryz.f48, E48, Reg.row]
    repeat' (first | omega | (simp -dsimp [E48, ri, cellp, ints, b1, b2, b3, d1, e1, c1, d2, e2, c2, d3, e3, c3, c4, Reg.row, Reg.valid]) | (refine Also.intro ?_ fun _ => ?_) | (refine Hold.intro fun _ => ?_) | (refine And.intro ?_ ?_))
  have k1 : r.kinds.length ≤ 1000000 := by omega
  have k2 : r.parts.length ≤ 1000000 := by omega
  have k3 : r.orders.length ≤ 1000000 := by omega
  cases c5 : r.kinds.any Kd.bad <;> cases c6 : r.parts.any r.badP <;> cases c7 : r.orders.any r.badO <;> simp -dsimp [Tryz.f48, E48, Reg.row] <;> repeat' (first | omega | (simp -dsimp [E48, ri, cellp, ints, b1, b2, b3, k1, k2, k3, d1, e1, c1, d2, e2, c2, d3, e3, c3, c4, c5, c6, c7, hv, kdsE_dec, ptc_go, odc_go, Blank, bmp, Reg.row, Reg.valid]) | (refine Also.intro ?_ fun _ => ?_) | (refine Hold.intro fun _ => ?_) | (refine And.intro ?_ ?_))
theorem ok48 : FnOK Tryz.prog 48 (.pure validS) := pure_fn (E := E48) rfl (.cons ok20 (.cons ok81 (.cons ok82 (.cons ok83 (.cons ok84 (.cons ok85 (.cons ok86 (.cons ok80 .nil)))))))) (ok := []) (fn := Tryz.f48) (by kernel_rfl) (by kernel_rfl) (by kernel_rfl) (by kernel_rfl) rfl (fun _ _ => by simp) b48
end Go.Sx
end
