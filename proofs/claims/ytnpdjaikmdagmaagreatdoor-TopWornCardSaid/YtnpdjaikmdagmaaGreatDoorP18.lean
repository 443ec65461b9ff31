/- Explain (health): contracts of its functions, and what it says. No conditions. -/
import Derived.Test.YtnpdjaikmdagmaaGreatDoorP17
set_option linter.unusedSimpArgs false
set_option linter.unusedVariables false
set_option linter.unusedSectionVars false
set_option linter.unusedSimpArgs false
set_option linter.unusedSectionVars false
set_option maxRecDepth 100000
section
namespace Go.Sx
open Go.Proofs
noncomputable abbrev E17 : Env := { P := Tryz.prog, fn := tbl [], own := [], key := 1700, nt := 15 }
theorem b17 : PureBody E17 [] Tryz.f17 withinS := by
  refine pb ?_
  rintro ⟨n, lo, hi⟩ _
  simp -dsimp [Tryz.f17, E17, withinB]
  repeat' (first | omega | (simp -dsimp [E17, withinB, *]) | (refine Also.intro ?_ fun _ => ?_) | (refine Hold.intro fun _ => ?_) | (refine And.intro ?_ ?_))
theorem ok17 : FnOK Tryz.prog 17 (.pure withinS) := pure_fn (E := E17) rfl LOK.nil (ok := []) (fn := Tryz.f17) (by kernel_rfl) (by kernel_rfl) (by kernel_rfl) (by kernel_rfl) rfl (fun _ _ => by simp) b17
end Go.Sx
end
section
namespace Go.Sx
open Go.Proofs
abbrev isNaNS : PSpec := { dom := Int, enc := fun n => [.int .i64 n], dec := fun l => (l.getD 0 .top).toInt, pre := fun _ => True, res := fun _ => .bool false }
noncomputable abbrev E132 : Env := { P := Tryz.prog, fn := tbl [], own := [], key := 13200, nt := 6 }
theorem b132 : PureBody E132 [] Tryz.f132 isNaNS := by
  refine pb fun n _ => ?_
  simp -dsimp [Tryz.f132, E132]
theorem ok132 : FnOK Tryz.prog 132 (.pure isNaNS) := pure_fn (E := E132) rfl LOK.nil (ok := []) (fn := Tryz.f132) (by kernel_rfl) (by kernel_rfl) (by kernel_rfl) (by kernel_rfl) rfl (fun _ _ => by simp) b132
def cmpZ (x y : Int) : Int := if x < y then -1 else if y < x then 1 else 0
abbrev cmpS : PSpec := { dom := Int × Int, enc := fun n => [.int .i64 n.1, .int .i64 n.2], dec := fun l => ((l.getD 0 .top).toInt, (l.getD 1 .top).toInt), pre := fun _ => True, res := fun n => .int .i64 (cmpZ n.1 n.2) }
noncomputable abbrev E94 : Env := { P := Tryz.prog, fn := tbl [(132, .pure isNaNS)], own := [], key := 9400, nt := 20 }
theorem b94 : PureBody E94 [] Tryz.f94 cmpS := by
  refine pb fun n _ => ?_
  simp -dsimp [Tryz.f94, E94, cmpZ]
  repeat' (first | omega | (simp -dsimp [E94, ri, cellp, ints, *]) | (refine Also.intro ?_ fun _ => ?_) | (refine Hold.intro fun _ => ?_) | (refine And.intro ?_ ?_))
theorem ok94 : FnOK Tryz.prog 94 (.pure cmpS) := pure_fn (E := E94) rfl (.cons ok132 .nil) (ok := []) (fn := Tryz.f94) (by kernel_rfl) (by kernel_rfl) (by kernel_rfl) (by kernel_rfl) rfl (fun _ _ => by simp) b94
def gainZ (l : List Int) (v : Int) : Int := (l.map (cmpZ v)).sum
def trendZ (l : List Int) : Int := ((List.range l.length).map fun i => gainZ (l.take i) (l.getD i 0)).sum
end Go.Sx
end
section
namespace Go.Sx
open Go.Proofs
def rl (l : List Int) : List V := [.sl 1 (l.map ri)]
def V.toLists (v : V) : List (List Int) := v.rows.map fun r => (r.getD 0 .top).toInts
@[simp] theorem toLists_rl (d : List (List Int)) : V.toLists (.sl 1 (d.map rl)) = d := by
  simp [V.toLists, List.map_map]
  induction d with
  | nil => rfl
  | cons a d ih => simp [rl, ih]
end Go.Sx
end
section
namespace Go.Sx
open Go.Proofs
def nextZ (want : Int) : Nat → List Int → Nat → List Int → Int → Int × Int → List Int × Int × Int
  | 0, rows, _, _, so, c => (rows, if so ≥ want then c.1 + 1 else c.1, c.2 + 1)
  | m + 1, rows, j, left, so, c => (List.range left.length).foldl (fun (s : List Int × Int × Int) i =>
      nextZ want m (s.1.set j (left.getD i 0)) (j + 1) (left.take i ++ left.drop (i + 1)) (so + gainZ (s.1.take j) (left.getD i 0)) s.2) (rows, c)
end Go.Sx
end
section
namespace Go.Sx
open Go.Proofs
def chZ (l : List Int) : Int × Int := (nextZ (trendZ l) l.length (List.replicate l.length 0) 0 l 0 (0, 0)).2
end Go.Sx
end
section
namespace Go.Sx
open Go.Proofs
def natI (l : List Nat) : List Int := l.map fun n : Nat => (n : Int)
@[simp] theorem natI_length (l : List Nat) : (natI l).length = l.length := by simp [natI]
def nats (l : List Nat) : V := ints (natI l)
def rn (n : Nat) : List V := [.int .i64 (n : Int)]
theorem nats_eq (l : List Nat) : nats l = .sl 1 (l.map rn) := by simp [nats, natI, ints, rn, ri, Function.comp_def]
def V.toNats (v : V) : List Nat := v.toInts.map Int.toNat
@[simp] theorem toNats_nats (l : List Nat) : (nats l).toNats = l := by
  unfold V.toNats nats natI
  rw [toInts_ints, List.map_map]
  simp [Function.comp_def]
@[simp] theorem toNats_rn (l : List Nat) : (V.sl 1 (l.map rn)).toNats = l := by rw [← nats_eq, toNats_nats]
def memTo (s k : Nat) : List Nat := (List.range k).filter fun n => s.testBit n
def memN (s : Nat) : List Nat := memTo s 62
theorem memTo_len (s k : Nat) : (memTo s k).length ≤ k := by
  have := List.length_filter_le (fun n => s.testBit n) (List.range k)
  simpa [memTo] using this
theorem memTo_succ (s k : Nat) : memTo s (k + 1) = memTo s k ++ if s.testBit k then [k] else [] := by
  simp only [memTo, List.range_succ, List.filter_append, List.filter_cons, List.filter_nil]
theorem memTo_all {s k : Nat} (hk : k ≤ 62) (h : s >>> k = 0) : memTo s k = memN s := by
  have key : ∀ j, memTo s (k + j) = memTo s k := by
    intro j
    induction j with
    | zero => rfl
    | succ j ih =>
      rw [← Nat.add_assoc, memTo_succ, ih]
      have : s.testBit (k + j) = false := by
        have h1 : (s >>> k).testBit j = s.testBit (k + j) := Nat.testBit_shiftRight ..
        rw [h, Nat.zero_testBit] at h1
        exact h1.symm
      simp [this]
  have := key (62 - k)
  rw [show k + (62 - k) = 62 by omega] at this
  exact this.symm
abbrev membersS : PSpec := { dom := Nat, enc := fun s => [.int .i64 (s : Int)], dec := fun l => (l.getD 0 .top).toInt.toNat, pre := fun s => s < 4611686018427387904, res := fun s => nats (memN s) }
noncomputable abbrev E91 : Env := { P := Tryz.prog, fn := tbl [], own := [], key := 9100, nt := 20 }
theorem b91 : PureBody E91 [] Tryz.f91 membersS := by
  refine pb ?_
  rintro s hs
  simp -dsimp [Tryz.f91, E91, nats_eq]
  refine awp_loop_g [(2, 8199, 1, 3)] rfl (by simp) [4, 5, 6, 7, 10, 11, 12, 13, 14, 15, 16, 17, 18, 2, 8, 9, 3]
    (fun k : Fin 63 => [(3, (true, .int .i64 (k.1 : Nat))), (2, (true, .bsl 8199 0 (memTo s k.1).length))])
    (fun k => hps [(8199, { base := 0, blks := [{ z := 1, els := (memTo s k.1).map rn, ty := 3 }] })] noH) (fun k => 62 - k.1) ⟨0, by omega⟩ ?_ (HLe.of_eq (by simp [memTo])) ?_
  · simp [okAll, okv, memTo]
  rintro ⟨k, hk⟩
  have h1 := bit_shr s k (by omega)
  have hle : sr s k ≤ s := by unfold sr; rw [Nat.shiftRight_eq_div_pow]; exact Nat.div_le_self _ _
  have h2 := bit_and (a := sr s k) (b := 1) (by omega) (by decide)
  simp only [Int.natCast_one] at h2
  have hml := memTo_len s k
  by_cases h0 : sr s k = 0
  · have e0 : ¬ (0 : Int) < (sr s k : Int) := by omega
    have ea := memTo_all (by omega) h0
    simp -dsimp [h1, e0, ea]
    repeat' (first | omega | (simp -dsimp [E91, ri, cellp, ints, h1, e0, ea]) | (refine Also.intro ?_ fun _ => ?_) | (refine Hold.intro fun _ => ?_) | (refine And.intro ?_ ?_))
  · have e0 : (0 : Int) < (sr s k : Int) := by omega
    have hk2 : k < 62 := by
      have : ¬ k = 62 := by
        intro e; subst e
        apply h0
        unfold sr; rw [Nat.shiftRight_eq_div_pow]
        exact Nat.div_eq_of_lt (by omega)
      omega
    have w1 : IntKind.wrap .i64 ((k : Int) + 1) = (k + 1 : Nat) := wrap_id (by omega) (by omega)
    have hb := bit_one s k
    by_cases ht : s.testBit k = true
    · rw [if_pos ht] at hb
      rw [hb] at h2
      have hs2 := memTo_succ s k
      rw [if_pos ht] at hs2
      simp -dsimp [h1, h2, e0]
      repeat' (first | omega | (simp -dsimp [E91, ri, cellp, ints, h1, h2, e0, w1]) | (refine Also.intro ?_ fun _ => ?_) | (refine Hold.intro fun _ => ?_) | (refine And.intro ?_ ?_))
      refine ⟨⟨k + 1, by omega⟩, tle_chain rfl ?_, HLe.of_eq (by simp [hs2, rn]), by simp only; omega⟩
      simp [okAll, okv, hs2]
    · have ht' : s.testBit k = false := by simpa using ht
      rw [if_neg ht] at hb
      rw [hb] at h2
      have hs2 := memTo_succ s k
      rw [if_neg ht, List.append_nil] at hs2
      simp -dsimp [h1, h2, e0]
      repeat' (first | omega | (simp -dsimp [E91, ri, cellp, ints, h1, h2, e0, w1]) | (refine Also.intro ?_ fun _ => ?_) | (refine Hold.intro fun _ => ?_) | (refine And.intro ?_ ?_))
      refine ⟨⟨k + 1, by omega⟩, tle_chain rfl ?_, HLe.of_eq (by simp [hs2]), by simp only; omega⟩
      simp [okAll, okv, hs2]
theorem ok91 : FnOK Tryz.prog 91 (.pure membersS) := pure_fn (E := E91) rfl LOK.nil (ok := []) (fn := Tryz.f91) (by kernel_rfl) (by kernel_rfl) (by kernel_rfl) (by kernel_rfl) rfl (fun _ _ => by simp) b91
structure BoxD where
  se : Int
  ge : Int
  cells : List (List V)
  bys : List Nat
def boxV (d : BoxD) : V := .ip 4 [[.int .i64 d.se, .int .i64 d.ge, .sl 2 d.cells, .sl 1 (d.bys.map rn)]] 0 0
def V.row0 : V → List V
  | .ip _ els _ _ => els.getD 0 []
  | _ => []
def V.toBox (v : V) : BoxD := ⟨(v.row0.getD 0 .top).toInt, (v.row0.getD 1 .top).toInt, (v.row0.getD 2 .top).rows, (v.row0.getD 3 .top).toNats⟩
@[simp] theorem toBox_boxV (d : BoxD) : (boxV d).toBox = d := by
  simp [boxV, V.toBox, V.row0]
@[simp] theorem toBox_ip (se ge : Int) (cells : List (List V)) (l : List Nat) : V.toBox (.ip 4 [[.int .i64 se, .int .i64 ge, .sl 2 cells, .sl 1 (l.map rn)]] 0 0) = ⟨se, ge, cells, l⟩ := by
  simp [V.toBox, V.row0]
def wornTo (l : List Nat) (loose k : Nat) : Nat := (List.range k).foldl (fun a i => if loose.testBit i then a else orN a (l.getD i 0)) 0
theorem wornTo_succ (l : List Nat) (loose k : Nat) : wornTo l loose (k + 1) = if loose.testBit k then wornTo l loose k else orN (wornTo l loose k) (l.getD k 0) := by
  simp [wornTo, List.range_succ, List.foldl_append]
def wornN (l : List Nat) (loose : Nat) : Nat := wornTo l loose l.length
theorem wornTo_lt {l : List Nat} {n : Nat} (h : ∀ x ∈ l, x < 2 ^ n) (loose k : Nat) : wornTo l loose k < 2 ^ n := by
  induction k with
  | zero => simp [wornTo]; exact Nat.two_pow_pos n
  | succ k ih =>
    rw [wornTo_succ]
    split
    · exact ih
    · refine Nat.or_lt_two_pow ih ?_
      simp only [List.getD]
      cases e : l[k]? with
      | none => simp; exact Nat.two_pow_pos n
      | some x => simp; exact h x (List.mem_of_getElem? e)
abbrev wornS : PSpec := { dom := BoxD × Nat, enc := fun d => [boxV d.1, .int .i64 (d.2 : Int)], dec := fun l => ((l.getD 0 .top).toBox, (l.getD 1 .top).toInt.toNat), pre := fun d => d.1.bys.length ≤ 12 ∧ (∀ x ∈ d.1.bys, x < 2 ^ 12) ∧ d.2 < 2 ^ 12, res := fun d => .int .i64 (wornN d.1.bys d.2 : Int) }
noncomputable abbrev E92 : Env := { P := Tryz.prog, fn := tbl [], own := [], key := 9200, nt := 27 }
theorem b92 : PureBody E92 [] Tryz.f92 wornS := by
  refine pb ?_
  rintro ⟨⟨se, ge, cells, l⟩, s⟩ ⟨p1, p2, p3⟩
  simp only at p1 p2 p3
  simp -dsimp [Tryz.f92, E92, boxV]
  refine awp_loop [13, 14, 15, 16, 5, 6, 17, 18, 19, 20, 21, 22, 23, 24, 4, 25, 12]
    (fun k : Fin (l.length + 1) => [(12, (true, .int .i64 (k.1 : Nat))), (4, (true, .int .i64 (wornTo l s k.1 : Int)))])
    (fun k => noH) (fun k => l.length - k.1) ⟨0, by omega⟩ ?_ (HLe.refl _) ?_
  · simp [okAll, okv, wornTo]
  rintro ⟨k, hk⟩
  by_cases hk1 : k < l.length
  · have h1 := bit_shr s k (by omega)
    have hle : sr s k ≤ s := by unfold sr; rw [Nat.shiftRight_eq_div_pow]; exact Nat.div_le_self _ _
    have h2 := bit_and (a := sr s k) (b := 1) (by omega) (by decide)
    simp only [Int.natCast_one] at h2
    have w1 : IntKind.wrap .i64 ((k : Int) + 1) = (k + 1 : Nat) := wrap_id (by omega) (by omega)
    have hw := wornTo_lt p2 s k
    have hx := p2 l[k] (List.getElem_mem hk1)
    have h3 := bit_or (a := wornTo l s k) (b := l[k]) (by omega) (by omega)
    have hs2 := wornTo_succ l s k
    have eG : l.getD k 0 = l[k] := by simp [List.getD, List.getElem?_eq_getElem hk1]
    rw [eG] at hs2
    have hb := bit_one s k
    by_cases ht : s.testBit k = true
    · rw [if_pos ht] at hb hs2
      rw [hb] at h2
      simp -dsimp [h1, h2, hk1, rn]
      repeat' (first | omega | (simp -dsimp [E92, ri, cellp, ints, h1, h2, w1, hk1, rn]) | (refine Also.intro ?_ fun _ => ?_) | (refine Hold.intro fun _ => ?_) | (refine And.intro ?_ ?_))
      refine ⟨⟨k + 1, by omega⟩, tle_chain rfl ?_, HLe.refl _, by simp only; omega⟩
      simp [okAll, okv, hs2]
    · rw [if_neg ht] at hb hs2
      rw [hb] at h2
      simp -dsimp [h1, h2, hk1, rn]
      repeat' (first | omega | (simp -dsimp [E92, ri, cellp, ints, h1, h2, h3, w1, hk1, rn]) | (refine Also.intro ?_ fun _ => ?_) | (refine Hold.intro fun _ => ?_) | (refine And.intro ?_ ?_))
      refine ⟨⟨k + 1, by omega⟩, tle_chain rfl ?_, HLe.refl _, by simp only; omega⟩
      simp [okAll, okv, hs2]
  · have : k = l.length := by omega
    subst this
    simp -dsimp [wornN]
    repeat' (first | omega | (simp -dsimp [E92, ri, cellp, ints, wornN]) | (refine Also.intro ?_ fun _ => ?_) | (refine Hold.intro fun _ => ?_) | (refine And.intro ?_ ?_))
theorem ok92 : FnOK Tryz.prog 92 (.pure wornS) := pure_fn (E := E92) rfl LOK.nil (ok := []) (fn := Tryz.f92) (by kernel_rfl) (by kernel_rfl) (by kernel_rfl) (by kernel_rfl) rfl (fun _ _ => by simp) b92
abbrev sizeS : PSpec := { dom := List Int × List Int, enc := fun d => [.agg [ints d.1, ints d.2]], dec := fun l => ((((l.getD 0 .top).cs.getD 0 .top)).toInts, ((l.getD 0 .top).cs.getD 1 .top).toInts), pre := fun d => d.1.length ≤ 1000000 ∧ d.2.length ≤ 1000000, res := fun d => .int .i64 (d.1.length + d.2.length : Nat) }
noncomputable abbrev E93 : Env := { P := Tryz.prog, fn := tbl [], own := [], key := 9300, nt := 10 }
theorem b93 : PureBody E93 [] Tryz.f93 sizeS := by
  refine pb ?_
  rintro ⟨a, b⟩ ⟨p1, p2⟩
  simp only at p1 p2
  have w1 : IntKind.wrap .i64 ((a.length : Int) + b.length) = (a.length + b.length : Nat) := wrap_id (by omega) (by omega)
  simp -dsimp [Tryz.f93, E93, ints]
  repeat' (first | omega | (simp -dsimp [E93, ri, cellp, ints, w1]) | (refine Also.intro ?_ fun _ => ?_) | (refine Hold.intro fun _ => ?_) | (refine And.intro ?_ ?_))
theorem ok93 : FnOK Tryz.prog 93 (.pure sizeS) := pure_fn (E := E93) rfl LOK.nil (ok := []) (fn := Tryz.f93) (by kernel_rfl) (by kernel_rfl) (by kernel_rfl) (by kernel_rfl) rfl (fun _ _ => by simp) b93
end Go.Sx
end
section
namespace Go.Sx
open Go.Proofs
set_option maxHeartbeats 1000000
def cmpL : List Int → List Int → Int
  | [], [] => 0
  | [], _ :: _ => -1
  | _ :: _, [] => 1
  | x :: a, y :: b => if cmpZ x y ≠ 0 then cmpZ x y else cmpL a b
abbrev cmpLS : PSpec := { dom := List Int × List Int, enc := fun d => [ints d.1, ints d.2], dec := fun l => ((l.getD 0 .top).toInts, (l.getD 1 .top).toInts), pre := fun d => d.1.length ≤ 1000000 ∧ d.2.length ≤ 1000000, res := fun d => .int .i64 (cmpL d.1 d.2) }
noncomputable abbrev E57 : Env := { P := Tryz.prog, fn := tbl [(94, .pure cmpS)], own := [], key := 5700, nt := 36 }
theorem b57 : PureBody E57 [] Tryz.f57 cmpLS := by
  refine pb ?_
  rintro ⟨a, b⟩ ⟨p1, p2⟩
  simp only at p1 p2
  simp -dsimp [Tryz.f57, E57, ints]
  refine awp_loop [12, 13, 14, 15, 5, 6, 16, 17, 18, 19, 4, 20, 21, 22, 23, 7, 24, 25, 26, 8, 27, 28, 29, 30, 11]
    (fun k : { k : Nat // k ≤ a.length ∧ k ≤ b.length ∧ cmpL (a.drop k) (b.drop k) = cmpL a b } => [(11, (true, .int .i64 (k.1 : Nat)))])
    (fun k => noH) (fun k => a.length - k.1) ⟨0, by omega, by omega, rfl⟩ ?_ (HLe.refl _) ?_
  · simp [okAll, okv]
  rintro ⟨k, hk, hkb, he⟩
  have w1 : IntKind.wrap .i64 ((k : Int) + 1) = (k + 1 : Nat) := wrap_id (by omega) (by omega)
  by_cases hk1 : k < a.length
  · by_cases hk2 : k < b.length
    · rw [List.drop_eq_getElem_cons hk1, List.drop_eq_getElem_cons hk2, cmpL] at he
      by_cases hc : cmpZ a[k] b[k] = 0
      · rw [if_neg (by simpa using hc)] at he
        have hkk : ¬ b.length ≤ k := by omega
        simp -dsimp [hk1, hk2, hkk, ri, hc]
        repeat' (first | omega | (simp -dsimp [E57, ri, cellp, ints, hk1, hk2, hkk, hc, w1]) | (refine Also.intro ?_ fun _ => ?_) | (refine Hold.intro fun _ => ?_) | (refine And.intro ?_ ?_))
        refine ⟨k + 1, tle_chain rfl ?_, HLe.refl _, ⟨hk1, hk2, he⟩, by omega⟩
        simp [okAll, okv]
      · rw [if_pos hc] at he
        have hkk : ¬ b.length ≤ k := by omega
        simp -dsimp [hk1, hk2, hkk, ri, hc]
        repeat' (first | omega | (simp -dsimp [E57, ri, cellp, ints, hk1, hk2, hkk, hc, w1, he]) | (refine Also.intro ?_ fun _ => ?_) | (refine Hold.intro fun _ => ?_) | (refine And.intro ?_ ?_))
    · have hkk : b.length ≤ k := by omega
      have hd : b.drop k = [] := List.drop_eq_nil_of_le hkk
      rw [List.drop_eq_getElem_cons hk1, hd, cmpL] at he
      simp -dsimp [hk1, hkk, ri]
      repeat' (first | omega | (simp -dsimp [E57, ri, cellp, ints, hk1, hkk, he]) | (refine Also.intro ?_ fun _ => ?_) | (refine Hold.intro fun _ => ?_) | (refine And.intro ?_ ?_))
  · have hka : k = a.length := by omega
    subst hka
    have hd : a.drop a.length = [] := List.drop_eq_nil_of_le (Nat.le_refl _)
    rw [hd] at he
    by_cases hk2 : a.length < b.length
    · rw [List.drop_eq_getElem_cons hk2, cmpL] at he
      simp -dsimp [hk2]
      repeat' (first | omega | (simp -dsimp [E57, ri, cellp, ints, hk2, he]) | (refine Also.intro ?_ fun _ => ?_) | (refine Hold.intro fun _ => ?_) | (refine And.intro ?_ ?_))
    · have hd2 : b.drop a.length = [] := List.drop_eq_nil_of_le (by omega)
      rw [hd2, cmpL] at he
      have hk3 : ¬ (a.length : Int) < b.length := by omega
      simp -dsimp [hk3]
      repeat' (first | omega | (simp -dsimp [E57, ri, cellp, ints, hk3, he]) | (refine Also.intro ?_ fun _ => ?_) | (refine Hold.intro fun _ => ?_) | (refine And.intro ?_ ?_))
theorem ok57 : FnOK Tryz.prog 57 (.pure cmpLS) := pure_fn (E := E57) rfl (.cons ok94 .nil) (ok := []) (fn := Tryz.f57) (by kernel_rfl) (by kernel_rfl) (by kernel_rfl) (by kernel_rfl) rfl (fun _ _ => by simp) b57
def firstNz (l : List Int) : Int := (l.find? fun x => x != 0).getD 0
abbrev orS : PSpec := { dom := List Int, enc := fun d => [ints d], dec := fun l => (l.getD 0 .top).toInts, pre := fun d => d.length ≤ 1000000, res := fun d => .int .i64 (firstNz d) }
noncomputable abbrev E56 : Env := { P := Tryz.prog, fn := tbl [], own := [], key := 5600, nt := 18 }
theorem b56 : PureBody E56 [] Tryz.f56 orS := by
  refine pb ?_
  rintro l p1
  simp -dsimp [Tryz.f56, E56, ints]
  refine awp_loop [9, 10, 11, 5, 12, 13, 14, 15, 2, 16, 8]
    (fun k : { k : Nat // k ≤ l.length ∧ firstNz (l.drop k) = firstNz l } => [(8, (true, .int .i64 (k.1 : Nat)))])
    (fun k => noH) (fun k => l.length - k.1) ⟨0, by omega, rfl⟩ ?_ (HLe.refl _) ?_
  · simp [okAll, okv]
  rintro ⟨k, hk, he⟩
  have w1 : k < l.length → IntKind.wrap .i64 ((k : Int) + 1) = (k + 1 : Nat) := fun h => wrap_id (by omega) (by have : l.length ≤ 1000000 := p1; omega)
  by_cases hk1 : k < l.length
  · rw [List.drop_eq_getElem_cons hk1, firstNz, List.find?_cons] at he
    by_cases hc : l[k] = 0
    · simp only [hc] at he
      simp -dsimp [hk1, ri, hc]
      repeat' (first | omega | (simp -dsimp [E56, ri, cellp, ints, hk1, hc, w1]) | (refine Also.intro ?_ fun _ => ?_) | (refine Hold.intro fun _ => ?_) | (refine And.intro ?_ ?_))
      refine ⟨k + 1, tle_chain rfl ?_, HLe.refl _, ⟨hk1, he⟩, by omega⟩
      simp [okAll, okv, w1 hk1]
    · have hc' : (l[k] != 0) = true := by simpa using hc
      simp only [hc'] at he
      simp -dsimp [hk1, ri, hc]
      repeat' (first | omega | (simp -dsimp [E56, ri, cellp, ints, hk1, hc, w1]) | (refine Also.intro ?_ fun _ => ?_) | (refine Hold.intro fun _ => ?_) | (refine And.intro ?_ ?_))
      simpa using he
  · have hka : k = l.length := by omega
    subst hka
    have hd : l.drop l.length = [] := List.drop_eq_nil_of_le (Nat.le_refl _)
    rw [hd] at he
    simp -dsimp
    repeat' (first | omega | (simp -dsimp [E56, ri, cellp, ints, he]) | (refine Also.intro ?_ fun _ => ?_) | (refine Hold.intro fun _ => ?_) | (refine And.intro ?_ ?_))
    simpa [firstNz] using he
theorem ok56 : FnOK Tryz.prog 56 (.pure orS) := pure_fn (E := E56) rfl LOK.nil (ok := []) (fn := Tryz.f56) (by kernel_rfl) (by kernel_rfl) (by kernel_rfl) (by kernel_rfl) rfl (fun _ _ => by simp) b56
abbrev Ex1 := List Int × List Int
def exV (x : Ex1) : V := .agg [ints x.1, ints x.2]
def exRo (x : Ex1) : List V := [ints x.1, ints x.2]
def cmpX (x y : Ex1) : Int := if (x.1.length : Int) - y.1.length ≠ 0 then (x.1.length : Int) - y.1.length else cmpL x.1 y.1
def V.toEx (v : V) : Ex1 := ((v.cs.getD 0 .top).toInts, (v.cs.getD 1 .top).toInts)
abbrev cmpXS : PSpec := { dom := Ex1 × Ex1, enc := fun d => [exV d.1, exV d.2], dec := fun l => ((l.getD 0 .top).toEx, (l.getD 1 .top).toEx), pre := fun d => d.1.1.length ≤ 1000000 ∧ d.2.1.length ≤ 1000000, res := fun d => .int .i64 (cmpX d.1 d.2) }
theorem firstNz_two (a b : Int) : firstNz [a, b] = if a ≠ 0 then a else b := by
  by_cases h : a = 0
  · subst h
    by_cases h2 : b = 0
    · subst h2; simp [firstNz]
    · simp [firstNz, List.find?_cons, h2]
  · have : (a != 0) = true := by simpa using h
    simp [firstNz, List.find?_cons, this, h]
noncomputable abbrev E55 : Env := { P := Tryz.prog, fn := tbl [(57, .pure cmpLS), (56, .pure orS)], own := [], key := 5500, nt := 19 }
theorem b55 : PureBody E55 [] Tryz.f55 cmpXS := by
  refine pb ?_
  rintro ⟨⟨a, a2⟩, ⟨b, b2⟩⟩ ⟨p1, p2⟩
  simp only at p1 p2
  have w1 : IntKind.wrap .i64 ((a.length : Int) - b.length) = (a.length : Int) - b.length := wrap_id (by omega) (by omega)
  simp -dsimp [Tryz.f55, E55, exV, ints]
  repeat' (first | omega | (simp -dsimp [E55, ri, cellp, ints, w1, firstNz_two, cmpX]) | (refine Also.intro ?_ fun _ => ?_) | (refine Hold.intro fun _ => ?_) | (refine And.intro ?_ ?_))
theorem ok55 : FnOK Tryz.prog 55 (.pure cmpXS) := pure_fn (E := E55) rfl (.cons ok57 (.cons ok56 .nil)) (ok := []) (fn := Tryz.f55) (by kernel_rfl) (by kernel_rfl) (by kernel_rfl) (by kernel_rfl) rfl (fun _ _ => by simp) b55
def minTe (l : List Ex1) (k : Nat) : Ex1 := (List.range k).foldl (fun m i => if cmpX (l.getD i ([], [])) m < 0 then l.getD i ([], []) else m) (l.getD 0 ([], []))
theorem minTe_succ (l : List Ex1) (k : Nat) : minTe l (k + 1) = if cmpX (l.getD k ([], [])) (minTe l k) < 0 then l.getD k ([], []) else minTe l k := by
  simp [minTe, List.range_succ, List.foldl_append]
def minX (l : List Ex1) : Ex1 := minTe l l.length
def V.toExs (v : V) : List Ex1 := v.rows.map fun r => ((r.getD 0 .top).toInts, (r.getD 1 .top).toInts)
@[simp] theorem toExs_sl (l : List Ex1) : (V.sl 2 (l.map exRo)).toExs = l := by
  simp only [V.toExs, V.rows, List.map_map]
  have : ((fun r : List V => ((r.getD 0 .top).toInts, (r.getD 1 .top).toInts)) ∘ exRo) = id := by
    funext x; simp [exRo, List.getD, ints]
  rw [this, List.map_id]
theorem minTe_mem {l : List Ex1} (h : 0 < l.length) : ∀ k, k ≤ l.length → minTe l k ∈ l := by
  intro k
  have e0 : l.getD 0 ([], []) ∈ l := by simp [List.getD, List.getElem?_eq_getElem h]
  induction k with
  | zero => intro _; exact e0
  | succ k ih =>
    intro hk
    rw [minTe_succ]
    split
    · have : k < l.length := hk
      simp [List.getD, List.getElem?_eq_getElem this]
    · exact ih (by omega)
abbrev minS : PSpec := { dom := List Ex1, enc := fun d => [.sl 2 (d.map exRo), .fn 55 []], dec := fun l => (l.getD 0 .top).toExs, pre := fun d => 0 < d.length ∧ d.length ≤ 1000000 ∧ ∀ x ∈ d, x.1.length ≤ 1000000, res := fun d => exV (minX d) }
noncomputable abbrev E53 : Env := { P := Tryz.prog, fn := tbl [(55, .pure cmpXS)], own := [], key := 5300, nt := 33 }
theorem b53 : PureBody E53 [(7, ([3, 4], [[0, 1, 2, 3, 4, 5, 6, 7]]))] Tryz.f53 minS := by
  refine pb ?_
  rintro l ⟨p1, p2, p3⟩
  have hne : ¬ l = [] := by intro e; subst e; simp at p1
  have hl1 : ¬ l.length < 1 := by omega
  have e0 : l.getD 0 ([], []) = l[0] := by simp [List.getD, List.getElem?_eq_getElem p1]
  have hc0 : ∀ x, cmpX x x = 0 := by
    intro x
    have hz : ∀ a : Int, cmpZ a a = 0 := fun a => by simp [cmpZ]
    have : ∀ a, cmpL a a = 0 := by
      intro a
      induction a with
      | nil => rfl
      | cons x a ih => simp [cmpL, hz, ih]
    simp [cmpX, this]
  have hm1 : minTe l 1 = l[0] := by
    rw [minTe_succ, e0, show minTe l 0 = l[0] from e0, hc0]; simp
  simp -dsimp [Tryz.f53, E53, hl1, hne, p1]
  repeat' (first | omega | (simp -dsimp [E53, ri, cellp, ints, hl1, hne, p1, exRo]) | (refine Also.intro ?_ fun _ => ?_) | (refine Hold.intro fun _ => ?_) | (refine And.intro ?_ ?_))
  refine awp_loop [14, 15, 16, 17, 20, 21, 22, 23, 24, 25, 26, 27, 28, 29, 30, 31, 18, 19, 6]
    (fun k : Fin l.length => [(6, (true, .int .i64 (k.1 + 1 : Nat)))])
    (fun k => hps [(5305, { base := 0, blks := [{ z := 2, els := [exRo (minTe l (k.1 + 1))], ty := 126 }] }), (5304, { base := 0, blks := [{ z := 2, els := [[.nil, .nil]], ty := 126 }] })] noH) (fun k => l.length - k.1) ⟨0, p1⟩ ?_ (HLe.of_eq (by simp [hm1, exRo, ints])) ?_
  · simp [okAll, okv]
  rintro ⟨k, hk⟩
  have w1 : IntKind.wrap .i64 ((k : Int) + 1 + 1) = (k + 2 : Nat) := wrap_id (by omega) (by omega)
  have hl0 : l.length - 1 + 1 = l.length := by omega
  by_cases hk1 : k + 1 < l.length
  · have hs2 := minTe_succ l (k + 1)
    have eG : l.getD (k + 1) ([], []) = l[k + 1] := by simp [List.getD, List.getElem?_eq_getElem hk1]
    rw [eG] at hs2
    have hm := p3 _ (minTe_mem p1 (k + 1) (by omega))
    have hx := p3 _ (List.getElem_mem hk1)
    have hki : (k : Int) + 1 < l.length := by omega
    generalize minTe l (k + 1) = m at *
    generalize hxe : l[k + 1] = x at *
    obtain ⟨m1, m2⟩ := m
    obtain ⟨x1, x2⟩ := x
    simp only at hm hx
    by_cases hc : cmpX (x1, x2) (m1, m2) < 0
    · rw [if_pos hc] at hs2
      simp -dsimp [hk1, hki, hxe, exRo, hc]
      repeat' (first | omega | (simp -dsimp [E53, ri, cellp, ints, hk1, hki, hxe, exRo, exV, hc, hm, hx, w1, FreeAt, V.toEx]) | (refine Also.intro ?_ fun _ => ?_) | (refine Hold.intro fun _ => ?_) | (refine And.intro ?_ ?_))
      refine ⟨⟨k + 1, by omega⟩, tle_chain rfl ?_, HLe.of_eq (by simp [hs2, exRo, ints]), by simp only; omega⟩
      simp [okAll, okv]
      omega
    · rw [if_neg hc] at hs2
      simp -dsimp [hk1, hki, hxe, exRo, hc]
      repeat' (first | omega | (simp -dsimp [E53, ri, cellp, ints, hk1, hki, hxe, exRo, exV, hc, hm, hx, w1, FreeAt, V.toEx]) | (refine Also.intro ?_ fun _ => ?_) | (refine Hold.intro fun _ => ?_) | (refine And.intro ?_ ?_))
      refine ⟨⟨k + 1, by omega⟩, tle_chain rfl ?_, HLe.of_eq (by simp [hs2, exRo, ints]), by simp only; omega⟩
      simp [okAll, okv]
      omega
  · have hke : k + 1 = l.length := by omega
    have hki : ¬ (k : Int) + 1 < l.length := by omega
    simp -dsimp [hki, exV, exRo, minX, hke]
    repeat' (first | omega | (simp -dsimp [E53, ri, cellp, ints, hki, exV, exRo, minX, hke]) | (refine Also.intro ?_ fun _ => ?_) | (refine Hold.intro fun _ => ?_) | (refine And.intro ?_ ?_))
theorem ok53 : FnOK Tryz.prog 53 (.pure minS) := pure_fn (E := E53) rfl (.cons ok55 .nil) (ok := [(7, ([3, 4], [[0, 1, 2, 3, 4, 5, 6, 7]]))]) (fn := Tryz.f53) (by kernel_rfl) (by kernel_rfl) (by kernel_rfl) (by kernel_rfl) rfl (fun _ _ => by simp) b53
def stepE (b : List Nat) (out : List Ex1) (loose : Nat) : List Ex1 :=
  let x : Ex1 := (natI (memN loose), natI (memN (wornN b loose)))
  match out with
  | [] => [x]
  | y :: out => if x.1.length + x.2.length > y.1.length + y.2.length then y :: out else if x.1.length + x.2.length < y.1.length + y.2.length then [x] else (y :: out) ++ [x]
def expTo (b : List Nat) (k : Nat) : List Ex1 := (List.range k).foldl (stepE b) []
theorem expTo_succ (b : List Nat) (k : Nat) : expTo b (k + 1) = stepE b (expTo b k) k := by
  simp [expTo, List.range_succ, List.foldl_append]
def expN (b : List Nat) (se : Nat) : List Ex1 := expTo b (2 ^ se)
theorem memN_len (s : Nat) : (memN s).length ≤ 62 := memTo_len s 62
theorem stepE_len (b : List Nat) (out : List Ex1) (loose : Nat) : (stepE b out loose).length ≤ out.length + 1 := by
  unfold stepE
  simp only
  split
  · simp
  · split
    · simp
    · split <;> simp
theorem expTo_len (b : List Nat) (k : Nat) : (expTo b k).length ≤ k := by
  induction k with
  | zero => simp [expTo]
  | succ k ih =>
    have := stepE_len b (expTo b k) k
    rw [expTo_succ]; omega
theorem stepE_mem (b : List Nat) (out : List Ex1) (loose : Nat) (h : ∀ x ∈ out, x.1.length ≤ 62 ∧ x.2.length ≤ 62) : ∀ x ∈ stepE b out loose, x.1.length ≤ 62 ∧ x.2.length ≤ 62 := by
  have h1 := memN_len loose
  have h2 := memN_len (wornN b loose)
  intro x hx
  unfold stepE at hx
  simp only at hx
  split at hx
  · simp only [List.mem_singleton] at hx
    subst hx; simp [h1, h2]
  · split at hx
    · exact h x hx
    · split at hx
      · simp only [List.mem_singleton] at hx
        subst hx; simp [h1, h2]
      · rcases List.mem_append.1 hx with hx | hx
        · exact h x hx
        · simp only [List.mem_singleton] at hx
          subst hx; simp [h1, h2]
theorem expTo_mem (b : List Nat) (k : Nat) : ∀ x ∈ expTo b k, x.1.length ≤ 62 ∧ x.2.length ≤ 62 := by
  induction k with
  | zero => simp [expTo]
  | succ k ih => rw [expTo_succ]; exact stepE_mem b _ _ ih
theorem room1 {n : Nat} (h : n ≤ 5000) : (n + 1) * 48 ≤ 140737488355328 := by omega
theorem room2 {n : Nat} (h : n ≤ 5000) : (n + 1 + 1) * 48 ≤ 140737488355328 := by omega
abbrev explS : PSpec := { dom := BoxD, enc := fun d => [boxV d], dec := fun l => (l.getD 0 .top).toBox, pre := fun d => 1 ≤ d.se ∧ d.se ≤ 12 ∧ d.bys.length ≤ 12 ∧ (∀ x ∈ d.bys, x < 2 ^ 12), res := fun d => .sl 2 ((expN d.bys d.se.toNat).map exRo) }
noncomputable abbrev E54 : Env := { P := Tryz.prog, fn := tbl [(91, .pure membersS), (92, .pure wornS), (93, .pure sizeS)], own := [], key := 5400, nt := 52 }
theorem b54 : PureBody E54 [] Tryz.f54 explS := by
  refine pb ?_
  rintro ⟨se, ge, cells, l⟩ ⟨p1, p2, p3, p4⟩
  simp only at p1 p2 p3 p4
  obtain ⟨n, rfl⟩ := Int.eq_ofNat_of_zero_le (show 0 ≤ se by omega)
  have hn : n ≤ 12 := by omega
  have h2n : 2 ^ n ≤ 2 ^ 12 := Nat.pow_le_pow_right (by decide) hn
  have h1 : shlV .i64 1 (n : Int) = ((2 ^ n : Nat) : Int) := bit_shl n (by omega)
  have p5 : ∀ x ∈ l, x < 4096 := p4
  generalize hN : 2 ^ n = N at *
  simp -dsimp [Tryz.f54, E54, boxV, h1]
  refine awp_loop_g [(2, 5449, 2, 126)] rfl (by simp) [11, 12, 3, 13, 14, 15, 16, 17, 18, 19, 4, 21, 22, 23, 24, 25, 26, 27, 28, 29, 30, 31, 32, 20, 34, 35, 36, 37, 38, 39, 40, 41, 42, 43, 44, 45, 33, 2, 46, 47, 48, 49, 50, 10]
    (fun p : Fin (N + 1) × Nat => [(10, (true, .int .i64 (p.1.1 : Nat))), (2, (true, .bsl 5449 p.2 (expTo l p.1.1).length))])
    (fun p => hps [(5449, { base := p.2, blks := [{ z := 2, els := (expTo l p.1.1).map exRo, ty := 126 }] }), (5404, { base := p.1.1, blks := [] })] noH) (fun p => N - p.1.1) (⟨0, by omega⟩, 0) ?_ (by simp -dsimp only [hpush_noH, hpush_hps, hps_over]; refine hle_hps ?_; simp -dsimp [allK, expTo]; repeat' (first | (refine And.intro ?_ ?_) | (refine sLe.same ?_ ?_ <;> (simp; done)) | (refine sLe.clear ?_ ?_ <;> (simp; done)) | (refine sLe.drop 1 ?_ ?_ ?_ <;> (simp; done)))) ?_
  · simp [okAll, okv, expTo]
  rintro ⟨⟨k, hk⟩, r⟩
  simp only
  by_cases hk1 : k < N
  · have hs := expTo_succ l k
    have hw := wornTo_lt p4 k l.length
    have hw2 : wornN l k < 4611686018427387904 := by unfold wornN; omega
    have hk2 : k < 4611686018427387904 := by omega
    have hk3 : k < 4096 := by omega
    have hw3 : wornN l k < 4096 := hw
    have hkN : (k : Int) < N := by omega
    have w1 : IntKind.wrap .i64 ((k : Int) + 1) = (k + 1 : Nat) := wrap_id (by omega) (by omega)
    have hol := expTo_len l k
    have hom := expTo_mem l k
    have n1 := memN_len k
    have n2 := memN_len (wornN l k)
    generalize expTo l k = o at *
    cases o with
    | nil =>
      simp -dsimp [hk1, hkN]
      repeat' (first | omega | (simp -dsimp [E54, ri, cellp, ints, hk1, hkN, hk2, hw2, hk3, hw3, w1, nats, boxV, p3, p5, exRo]) | (refine Also.intro ?_ fun _ => ?_) | (refine Hold.intro fun _ => ?_) | (refine And.intro ?_ ?_))
      refine ⟨⟨k + 1, by omega⟩, r, tle_chain rfl ?_, (by simp -dsimp only [hpush_noH, hpush_hps, hps_over]; refine hle_hps ?_; simp -dsimp [allK, hs, stepE, exRo, ints]; repeat' (first | (refine And.intro ?_ ?_) | (refine sLe.same ?_ ?_ <;> (simp; done)) | (refine sLe.clear ?_ ?_ <;> (simp; done)) | (refine sLe.drop 1 ?_ ?_ ?_ <;> (simp; done)))), by simp only; omega⟩
      simp [okAll, okv, hs, stepE]
    | cons y out =>
      obtain ⟨y1, y2⟩ := y
      have hy := hom (y1, y2) (by simp)
      have y1l : y1.length ≤ 1000000 := by have := hy.1; simp only at this; omega
      have y2l : y2.length ≤ 1000000 := by have := hy.2; simp only at this; omega
      have y1k : (memN k).length ≤ 1000000 := by omega
      have y2k : (memN (wornN l k)).length ≤ 1000000 := by omega
      simp only [stepE, natI_length] at hs
      have hlo : out.length ≤ 5000 := by simp only [List.length_cons] at hol; omega
      have hll := room1 hlo
      have hll2 := room2 hlo
      by_cases g1 : y1.length + y2.length < (memN k).length + (memN (wornN l k)).length
      · rw [if_pos g1] at hs
        have c1 : (y1.length : Int) + y2.length < (memN k).length + (memN (wornN l k)).length := by omega
        have c2 : ¬ ((memN k).length : Int) + (memN (wornN l k)).length < y1.length + y2.length := by omega
        simp -dsimp [hk1, hkN]
        repeat' (first | omega | (simp -dsimp [E54, ri, cellp, ints, hk1, hkN, hk2, hw2, hk3, hw3, w1, nats, boxV, p3, p5, exRo, y1l, y2l, y1k, y2k, c1, c2, hll, hll2]) | (refine Also.intro ?_ fun _ => ?_) | (refine Hold.intro fun _ => ?_) | (refine And.intro ?_ ?_))
        refine ⟨⟨k + 1, by omega⟩, r, tle_chain rfl ?_, (by simp -dsimp only [hpush_noH, hpush_hps, hps_over]; refine hle_hps ?_; simp -dsimp [allK, hs, exRo, ints]; repeat' (first | (refine And.intro ?_ ?_) | (refine sLe.same ?_ ?_ <;> (simp; done)) | (refine sLe.clear ?_ ?_ <;> (simp; done)) | (refine sLe.drop 1 ?_ ?_ ?_ <;> (simp; done)))), by simp only; omega⟩
        simp [okAll, okv, hs]
      · rw [if_neg g1] at hs
        have c1 : ¬ (y1.length : Int) + y2.length < (memN k).length + (memN (wornN l k)).length := by omega
        by_cases g2 : (memN k).length + (memN (wornN l k)).length < y1.length + y2.length
        · rw [if_pos g2] at hs
          have c2 : ((memN k).length : Int) + (memN (wornN l k)).length < y1.length + y2.length := by omega
          simp -dsimp [hk1, hkN]
          repeat' (first | omega | (simp -dsimp [E54, ri, cellp, ints, hk1, hkN, hk2, hw2, hk3, hw3, w1, nats, boxV, p3, p5, exRo, y1l, y2l, y1k, y2k, c1, c2, hll, hll2]) | (refine Also.intro ?_ fun _ => ?_) | (refine Hold.intro fun _ => ?_) | (refine And.intro ?_ ?_))
          refine ⟨⟨k + 1, by omega⟩, r + 1, tle_chain rfl ?_, (by simp -dsimp only [hpush_noH, hpush_hps, hps_over]; refine hle_hps ?_; simp -dsimp [allK, hs, exRo, ints]; repeat' (first | (refine And.intro ?_ ?_) | (refine sLe.same ?_ ?_ <;> (simp; done)) | (refine sLe.clear ?_ ?_ <;> (simp; done)) | (refine sLe.drop 1 ?_ ?_ ?_ <;> (simp; done)))), by simp only; omega⟩
          simp [okAll, okv, hs]
        · rw [if_neg g2] at hs
          have c2 : ¬ ((memN k).length : Int) + (memN (wornN l k)).length < y1.length + y2.length := by omega
          simp -dsimp [hk1, hkN]
          repeat' (first | omega | (simp -dsimp [E54, ri, cellp, ints, hk1, hkN, hk2, hw2, hk3, hw3, w1, nats, boxV, p3, p5, exRo, y1l, y2l, y1k, y2k, c1, c2, hll, hll2]) | (refine Also.intro ?_ fun _ => ?_) | (refine Hold.intro fun _ => ?_) | (refine And.intro ?_ ?_))
          refine ⟨⟨k + 1, by omega⟩, r, tle_chain rfl ?_, (by simp -dsimp only [hpush_noH, hpush_hps, hps_over]; refine hle_hps ?_; simp -dsimp [allK, hs, exRo, ints]; repeat' (first | (refine And.intro ?_ ?_) | (refine sLe.same ?_ ?_ <;> (simp; done)) | (refine sLe.clear ?_ ?_ <;> (simp; done)) | (refine sLe.drop 1 ?_ ?_ ?_ <;> (simp; done)))), by simp only; omega⟩
          simp [okAll, okv, hs]
  · have hke : k = N := by omega
    subst hke
    simp -dsimp [expN]
    repeat' (first | omega | (simp -dsimp [E54, ri, cellp, ints, expN, hN]) | (refine Also.intro ?_ fun _ => ?_) | (refine Hold.intro fun _ => ?_) | (refine And.intro ?_ ?_))
theorem ok54 : FnOK Tryz.prog 54 (.pure explS) := pure_fn (E := E54) rfl (.cons ok91 (.cons ok92 (.cons ok93 .nil))) (ok := []) (fn := Tryz.f54) (by kernel_rfl) (by kernel_rfl) (by kernel_rfl) (by kernel_rfl) rfl (fun _ _ => by simp) b54
end Go.Sx
end
section
namespace Go.Sx
open Go.Proofs
set_option maxHeartbeats 1000000
def V.toCells (v : V) : List (Int × Int) := v.rows.map fun r => ((r.getD 0 .top).toInt, (r.getD 1 .top).toInt)
@[simp] theorem toCells_sl (l : List (Int × Int)) : (V.sl 2 (l.map cycV)).toCells = l := by
  simp only [V.toCells, V.rows, List.map_map]
  have : ((fun r : List V => ((r.getD 0 .top).toInt, (r.getD 1 .top).toInt)) ∘ cycV) = id := by
    funext x; simp [cycV, List.getD]
  rw [this, List.map_id]
def okCe (se ge : Int) (cells : List (Int × Int)) (i : Nat) : Bool :=
  withinB (cells.getD i (0, 0)).1 0 (se - 1) && withinB (cells.getD i (0, 0)).2 0 (ge - 1) && (i == 0 || decide (cmpL [(cells.getD (i - 1) (0, 0)).1, (cells.getD (i - 1) (0, 0)).2] [(cells.getD i (0, 0)).1, (cells.getD i (0, 0)).2] < 0))
def okTo (se ge : Int) (cells : List (Int × Int)) (k : Nat) : Bool := (List.range k).all (okCe se ge cells)
theorem okTo_succ (se ge : Int) (cells : List (Int × Int)) (k : Nat) : okTo se ge cells (k + 1) = (okTo se ge cells k && okCe se ge cells k) := by
  simp [okTo, List.range_succ]
theorem okTo_fail {se ge : Int} {cells : List (Int × Int)} {k n : Nat} (h : okCe se ge cells k = false) (hk : k < n) : okTo se ge cells n = false := by
  simp only [okTo, List.all_eq_false, List.mem_range]
  exact ⟨k, hk, by simp [h]⟩
def okCells (se ge : Int) (cells : List (Int × Int)) : Bool := withinB se 1 8 && withinB ge 1 12 && okTo se ge cells cells.length
def stepB (l : List Nat) (c : Int × Int) : List Nat := l.set c.1.toNat (orN (l.getD c.1.toNat 0) (2 ^ c.2.toNat))
def bysTo (se : Int) (cells : List (Int × Int)) (k : Nat) : List Nat := (cells.take k).foldl stepB (List.replicate se.toNat 0)
theorem bysTo_succ (se : Int) (cells : List (Int × Int)) {k : Nat} (h : k < cells.length) : bysTo se cells (k + 1) = stepB (bysTo se cells k) cells[k] := by
  rw [bysTo, List.take_succ_eq_append_getElem h, List.foldl_append]; rfl
theorem stepB_length (l : List Nat) (c : Int × Int) : (stepB l c).length = l.length := by simp [stepB]
theorem bysTo_length (se : Int) (cells : List (Int × Int)) (k : Nat) : (bysTo se cells k).length = se.toNat := by
  unfold bysTo
  have : ∀ (cs : List (Int × Int)) (l : List Nat), (cs.foldl stepB l).length = l.length := by
    intro cs
    induction cs with
    | nil => intro l; rfl
    | cons c cs ih => intro l; rw [List.foldl_cons, ih, stepB_length]
  rw [this]; simp
def bysN (se : Int) (cells : List (Int × Int)) : List Nat := bysTo se cells cells.length
def boxOf (se ge : Int) (cells : List (Int × Int)) : BoxD := ⟨se, ge, cells.map cycV, bysN se cells⟩
theorem bysTo_lt {se ge : Int} {cells : List (Int × Int)} (hg : ge ≤ 12) : ∀ k, k ≤ cells.length → okTo se ge cells k = true → ∀ x ∈ bysTo se cells k, x < 2 ^ 12 := by
  intro k
  induction k with
  | zero => intro _ _ x hx; simp [bysTo] at hx; omega
  | succ k ih =>
    intro hk ho x hx
    rw [okTo_succ, Bool.and_eq_true] at ho
    have hk1 : k < cells.length := hk
    rw [bysTo_succ se cells hk1] at hx
    have ih := ih (by omega) ho.1
    have eG : cells.getD k (0, 0) = cells[k] := by simp [List.getD, List.getElem?_eq_getElem hk1]
    have h2 := ho.2
    simp only [okCe, eG, Bool.and_eq_true, withinB, decide_eq_true_eq] at h2
    unfold stepB at hx
    rcases List.mem_or_eq_of_mem_set hx with h | h
    · exact ih x h
    · subst h
      refine Nat.or_lt_two_pow ?_ (Nat.pow_lt_pow_right (by decide) (by omega))
      simp only [List.getD]
      cases e : (bysTo se cells k)[(cells[k]).1.toNat]? with
      | none => simp
      | some y => simp; exact ih y (List.mem_of_getElem? e)
abbrev newBoxS : PSpec := { dom := Int × Int × List (Int × Int), enc := fun d => [.int .i64 d.1, .int .i64 d.2.1, .sl 2 (d.2.2.map cycV)], dec := fun l => ((l.getD 0 .top).toInt, (l.getD 1 .top).toInt, (l.getD 2 .top).toCells), pre := fun d => d.2.2.length ≤ 9223372036854775807, res := fun d => if okCells d.1 d.2.1 d.2.2 then .tup [boxV (boxOf d.1 d.2.1 d.2.2), .bool true] else .tup [.nilp, .bool false] }
noncomputable abbrev E52 : Env := { P := Tryz.prog, fn := tbl [(17, .pure withinS), (57, .pure cmpLS)], own := [], key := 5200, nt := 76, frz := [(7, [10])] }
theorem b52 : PureBody E52 [] Tryz.f52 newBoxS := by
  refine pb ?_
  rintro ⟨se, ge, cells⟩ p1
  simp only at p1
  by_cases q1 : withinB se 1 8 = true
  case neg =>
    have q1' : withinB se 1 8 = false := by simpa using q1
    simp -dsimp [Tryz.f52, E52, q1', okCells]
    repeat' (first | omega | (simp -dsimp [E52, ri, cellp, ints, q1', okCells]) | (refine Also.intro ?_ fun _ => ?_) | (refine Hold.intro fun _ => ?_) | (refine And.intro ?_ ?_))
  by_cases q2 : withinB ge 1 12 = true
  case neg =>
    have q2' : withinB ge 1 12 = false := by simpa using q2
    simp -dsimp [Tryz.f52, E52, q1, q2', okCells]
    repeat' (first | omega | (simp -dsimp [E52, ri, cellp, ints, q1, q2', okCells]) | (refine Also.intro ?_ fun _ => ?_) | (refine Hold.intro fun _ => ?_) | (refine And.intro ?_ ?_))
  have q1' : 1 ≤ se ∧ se ≤ 8 := by simpa [withinB] using q1
  have q2' : 1 ≤ ge ∧ ge ≤ 12 := by simpa [withinB] using q2
  obtain ⟨n, rfl⟩ := Int.eq_ofNat_of_zero_le (show 0 ≤ se by omega)
  have ws : IntKind.wrap .i64 ((n : Int) - 1) = (n : Int) - 1 := wrap_id (by omega) (by omega)
  have wg : IntKind.wrap .i64 (ge - 1) = ge - 1 := wrap_id (by omega) (by omega)
  have n8 : n ≤ 8 := by omega
  simp -dsimp [Tryz.f52, E52, q1, q2]
  repeat' (first | omega | (simp -dsimp [E52, ri, cellp, ints, q1, q2, n8]) | (refine Also.intro ?_ fun _ => ?_) | (refine Hold.intro fun _ => ?_) | (refine And.intro ?_ ?_))
  refine awp_loop [29, 30, 31, 32, 10, 9, 33, 34, 35, 36, 37, 38, 39, 40, 41, 42, 43, 44, 45, 46, 47, 48, 49, 50, 51, 52, 53, 54, 55, 56, 57, 58, 59, 60, 6, 7, 61, 62, 63, 64, 65, 66, 67, 68, 69, 70, 71, 72, 73, 74, 28]
    (fun k : { k : Nat // k ≤ cells.length ∧ okTo n ge cells k = true } => [(28, (true, .int .i64 (k.1 : Nat)))])
    (fun k => hps [(5225, { base := 0, blks := [{ z := 4, els := [[.int .i64 n, .int .i64 ge, .sl 2 (cells.map cycV), .bsl 5223 0 n]], ty := 167, cl := false }] }), (5223, { base := 0, blks := [{ z := 1, els := (bysTo n cells k.1).map rn, ty := 3 }] }), (5210, { base := k.1, blks := [] })] noH) (fun k => cells.length - k.1) ⟨0, by omega, rfl⟩ ?_ (by (try simp -dsimp only [hpush_noH, hpush_hps, hps_over]); refine hle_hps ?_; simp -dsimp [allK, bysTo, rn]; repeat' (first | (refine And.intro ?_ ?_) | (refine sLe.same ?_ ?_ <;> (simp; done)) | (refine sLe.clear ?_ ?_ <;> (simp; done)) | (refine sLe.drop 1 ?_ ?_ ?_ <;> (simp; done)))) ?_
  · simp [okAll, okv]
  rintro ⟨k, hk, hok⟩
  simp only
  by_cases hk1 : k < cells.length
  case neg =>
    have hke : k = cells.length := by omega
    subst hke
    have hokc : okCells n ge cells = true := by simp [okCells, q1, q2, hok]
    have hbl := bysTo_length n cells cells.length
    rw [Int.toNat_natCast] at hbl
    simp -dsimp [hokc, boxV, boxOf, bysN]
    repeat' (first | omega | (simp -dsimp [E52, ri, cellp, ints, hokc, boxV, boxOf, bysN, hbl]) | (refine Also.intro ?_ fun _ => ?_) | (refine Hold.intro fun _ => ?_) | (refine And.intro ?_ ?_))
  have hs := okTo_succ n ge cells k
  have hbs := bysTo_succ n cells hk1
  have hbl := bysTo_length n cells k
  have eG : cells.getD k (0, 0) = cells[k] := by simp [List.getD, List.getElem?_eq_getElem hk1]
  have w1 : IntKind.wrap .i64 ((k : Int) + 1) = (k + 1 : Nat) := wrap_id (by omega) (by omega)
  have hfail : okCe n ge cells k = false → okCells n ge cells = false := fun h => by simp [okCells, okTo_fail h hk1]
  have hat : okCe n ge cells k = (withinB (cells[k]).1 0 ((n : Int) - 1) && withinB (cells[k]).2 0 (ge - 1) && (k == 0 || decide (cmpL [(cells.getD (k - 1) (0, 0)).1, (cells.getD (k - 1) (0, 0)).2] [(cells[k]).1, (cells[k]).2] < 0))) := by
    rw [okCe, eG]
  have hlt := bysTo_lt (se := n) q2'.2 k hk hok
  generalize hc : cells[k] = c at *
  obtain ⟨a, b⟩ := c
  simp only at hat hbs
  by_cases r1 : withinB a 0 ((n : Int) - 1) = true
  case neg =>
    have r1' : withinB a 0 ((n : Int) - 1) = false := by simpa using r1
    have hf := hfail (by rw [hat, r1']; rfl)
    simp -dsimp [hk1, hc, cycV, ws, r1', hf]
    repeat' (first | omega | (simp -dsimp [E52, ri, cellp, ints, hk1, hc, cycV, ws, r1', hf]) | (refine Also.intro ?_ fun _ => ?_) | (refine Hold.intro fun _ => ?_) | (refine And.intro ?_ ?_))
  by_cases r2 : withinB b 0 (ge - 1) = true
  case neg =>
    have r2' : withinB b 0 (ge - 1) = false := by simpa using r2
    have hf := hfail (by rw [hat, r1, r2']; rfl)
    simp -dsimp [hk1, hc, cycV, ws, wg, r1, r2', hf]
    repeat' (first | omega | (simp -dsimp [E52, ri, cellp, ints, hk1, hc, cycV, ws, wg, r1, r2', hf]) | (refine Also.intro ?_ fun _ => ?_) | (refine Hold.intro fun _ => ?_) | (refine And.intro ?_ ?_))
  rw [r1, r2, Bool.true_and, Bool.true_and] at hat
  have r1' : 0 ≤ a ∧ a ≤ (n : Int) - 1 := by simpa [withinB] using r1
  have r2' : 0 ≤ b ∧ b ≤ ge - 1 := by simpa [withinB] using r2
  obtain ⟨a, rfl⟩ := Int.eq_ofNat_of_zero_le r1'.1
  obtain ⟨b, rfl⟩ := Int.eq_ofNat_of_zero_le r2'.1
  have h1 := bit_shl b (by omega)
  rw [Int.toNat_natCast] at hbl
  generalize bysTo n cells k = l at *
  have ha : a < l.length := by omega
  have hx := hlt l[a] (List.getElem_mem ha)
  have hp : pw b < 9223372036854775808 := by
    have : 2 ^ b < 2 ^ 62 := Nat.pow_lt_pow_right (by decide) (by omega)
    unfold pw; omega
  have h3 := bit_or (a := l[a]) (b := pw b) (by omega) hp
  have hset : (l.map rn).set a [.int .i64 (orN l[a] (pw b) : Int)] = (stepB l ((a : Int), (b : Int))).map rn := by
    have : l.getD a 0 = l[a] := by simp [List.getD, List.getElem?_eq_getElem ha]
    rw [stepB, Int.toNat_natCast, Int.toNat_natCast, this, List.map_set]
    rfl
  have han : a < n := by omega
  have hnl : n = l.length := hbl.symm
  by_cases hk0 : k = 0
  · subst hk0
    simp at hat
    simp -dsimp [hk1, hc, cycV, ws, wg, r1, r2, h1]
    repeat' (first | omega | (simp -dsimp [E52, ri, cellp, ints, hk1, hc, cycV, ws, wg, r1, r2, h1, h3, ha, hbl, han, hset, w1, rn, -List.map_set]) | (refine Also.intro ?_ fun _ => ?_) | (refine Hold.intro fun _ => ?_) | (refine And.intro ?_ ?_))
    simp only [Nat.zero_add] at hbs hs
    refine ⟨1, tle_chain rfl ?_, (by (try simp -dsimp only [hpush_noH, hpush_hps, hps_over]); refine hle_hps ?_; simp -dsimp [allK, hbs]; repeat' (first | (refine And.intro ?_ ?_) | (refine sLe.same ?_ ?_ <;> (simp; done)) | (refine sLe.clear ?_ ?_ <;> (simp; done)) | (refine sLe.drop 1 ?_ ?_ ?_ <;> (simp; done)))), ⟨hk1, by rw [hs, hok, hat]; rfl⟩, by omega⟩
    simp [okAll, okv]
    exact wrap_id (by omega) (by omega)
  have hk2 : k - 1 < cells.length := by omega
  have hkp : 0 < k := by omega
  have wk : IntKind.wrap .i64 ((k : Int) - 1) = (k - 1 : Nat) := by rw [wrap_id (by omega) (by omega)]; omega
  have eP : cells.getD (k - 1) (0, 0) = cells[k - 1] := by simp [List.getD, List.getElem?_eq_getElem hk2]
  rw [eP] at hat
  generalize hpc : cells[k - 1] = p at *
  obtain ⟨pa, pb⟩ := p
  simp only [show (k == 0) = false by simpa using hk0, Bool.false_or] at hat
  by_cases hcmp : cmpL [pa, pb] [(a : Int), (b : Int)] < 0
  · have hcm' : ¬ 0 ≤ cmpL [pa, pb] [(a : Int), (b : Int)] := by omega
    simp only [hcmp, decide_true] at hat
    simp -dsimp [hk1, hc, hpc, cycV, ws, wg, r1, r2, h1]
    repeat' (first | omega | (simp -dsimp [E52, ri, cellp, ints, hk1, hkp, hc, hpc, hk2, cycV, ws, wg, r1, r2, h1, h3, ha, hbl, han, hset, w1, wk, hcm', rn, -List.map_set]) | (refine Also.intro ?_ fun _ => ?_) | (refine Hold.intro fun _ => ?_) | (refine And.intro ?_ ?_))
    refine ⟨k + 1, tle_chain rfl ?_, (by (try simp -dsimp only [hpush_noH, hpush_hps, hps_over]); refine hle_hps ?_; simp -dsimp [allK, hbs]; repeat' (first | (refine And.intro ?_ ?_) | (refine sLe.same ?_ ?_ <;> (simp; done)) | (refine sLe.clear ?_ ?_ <;> (simp; done)) | (refine sLe.drop 1 ?_ ?_ ?_ <;> (simp; done)))), ⟨hk1, by rw [hs, hok, hat]; rfl⟩, by omega⟩
    simp [okAll, okv]
  · have hcm' : 0 ≤ cmpL [pa, pb] [(a : Int), (b : Int)] := by omega
    simp only [hcmp, decide_false] at hat
    have hf := hfail hat
    simp -dsimp [hk1, hc, hpc, cycV, ws, wg, r1, r2, h1]
    repeat' (first | omega | (simp -dsimp [E52, ri, cellp, ints, hk1, hkp, hc, hpc, hk2, cycV, ws, wg, r1, r2, h1, h3, ha, hbl, han, hset, w1, wk, hcm', hf, rn, -List.map_set]) | (refine Also.intro ?_ fun _ => ?_) | (refine Hold.intro fun _ => ?_) | (refine And.intro ?_ ?_))
theorem ok52 : FnOK Tryz.prog 52 (.pure newBoxS) := pure_fn (E := E52) rfl (.cons ok17 (.cons ok57 .nil)) (ok := []) (fn := Tryz.f52) (by kernel_rfl) (by kernel_rfl) (by kernel_rfl) (by kernel_rfl) rfl (fun _ _ => by simp) b52
def explR (se ge : Int) (cells : List (Int × Int)) : List Int × List Int × Int := if okCells se ge cells then ((minX (expN (bysN se cells) se.toNat)).1, (minX (expN (bysN se cells) se.toNat)).2, 0) else ([], [], 1)
theorem expN_pos (b : List Nat) (n : Nat) : 0 < (expN b n).length := by
  have : ∀ k, 0 < (expTo b (k + 1)).length := by
    intro k
    rw [expTo_succ]
    unfold stepE
    simp only
    split
    · simp
    · split
      · simp
      · split <;> simp
  have h : 0 < 2 ^ n := Nat.two_pow_pos n
  obtain ⟨m, hm⟩ : ∃ m, 2 ^ n = m + 1 := ⟨2 ^ n - 1, by omega⟩
  unfold expN
  rw [hm]; exact this m
theorem okCells_facts {se ge : Int} {cells : List (Int × Int)} (h : okCells se ge cells = true) : 1 ≤ se ∧ se ≤ 8 ∧ (bysN se cells).length = se.toNat ∧ ∀ x ∈ bysN se cells, x < 2 ^ 12 := by
  simp only [okCells, Bool.and_eq_true, withinB, decide_eq_true_eq] at h
  exact ⟨h.1.1.1, h.1.1.2, bysTo_length _ _ _, bysTo_lt h.1.2.2 _ (Nat.le_refl _) h.2⟩
abbrev ExplainS : PSpec := { newBoxS with res := fun d => .tup [ints (explR d.1 d.2.1 d.2.2).1, ints (explR d.1 d.2.1 d.2.2).2.1, .int .i64 (explR d.1 d.2.1 d.2.2).2.2] }
noncomputable abbrev E23 : Env := { P := Tryz.prog, fn := tbl [(52, .pure newBoxS), (54, .pure explS), (53, .pure minS)], own := [], key := 2300, nt := 28 }
theorem b23 : PureBody E23 [] Tryz.f23 ExplainS := by
  refine pb ?_
  rintro ⟨se, ge, cells⟩ p1
  simp only at p1
  by_cases hv : okCells se ge cells = true
  · obtain ⟨q1, q2, q3, q4⟩ := okCells_facts hv
    have q4' : ∀ x ∈ bysN se cells, x < 4096 := q4
    have h1 := expN_pos (bysN se cells) se.toNat
    have h2 : (expN (bysN se cells) se.toNat).length ≤ 1000000 := by
      have h := expTo_len (bysN se cells) (2 ^ se.toNat)
      have : 2 ^ se.toNat ≤ 2 ^ 12 := Nat.pow_le_pow_right (by decide) (by omega)
      unfold expN; omega
    have h3 : ∀ x ∈ expN (bysN se cells) se.toNat, x.1.length ≤ 1000000 := fun x hx => by
      have := (expTo_mem (bysN se cells) _ x hx).1
      omega
    have q5 : (bysN se cells).length ≤ 12 := by omega
    have q6 : se ≤ 12 := by omega
    simp -dsimp [Tryz.f23, E23, hv, boxV, boxOf]
    have h3' : ∀ (a b : List Int), (a, b) ∈ expN (bysN se cells) se.toNat → a.length ≤ 1000000 := fun a b h => h3 (a, b) h
    repeat' (first | omega | (simp -dsimp [E23, ri, cellp, ints, hv, p1, boxV, boxOf, q1, q2, q5, q6, q4', h1, h2, explR, exV]) | (refine Also.intro ?_ fun _ => ?_) | (refine Hold.intro fun _ => ?_) | (refine And.intro ?_ ?_))
  · have hv' : okCells se ge cells = false := by simpa using hv
    simp -dsimp [Tryz.f23, E23, hv']
    repeat' (first | omega | (simp -dsimp [E23, ri, cellp, ints, hv', p1, explR]) | (refine Also.intro ?_ fun _ => ?_) | (refine Hold.intro fun _ => ?_) | (refine And.intro ?_ ?_))
theorem ok23 : FnOK Tryz.prog 23 (.pure ExplainS) := pure_fn (E := E23) rfl (.cons ok52 (.cons ok54 (.cons ok53 .nil))) (ok := []) (fn := Tryz.f23) (by kernel_rfl) (by kernel_rfl) (by kernel_rfl) (by kernel_rfl) rfl (fun _ _ => by simp) b23
end Go.Sx
end
section
namespace Go.Sx
open Go.Proofs
set_option maxHeartbeats 1000000
end Go.Sx
end
section
namespace Go.Sx
open Go.Proofs
set_option maxHeartbeats 1000000
structure LvD where
  en : Int
  pk : Int
  su : Int
  de : Int
def V.toLv (v : V) : LvD := ⟨(v.cs.getD 0 .top).toInt, (v.cs.getD 1 .top).toInt, (v.cs.getD 2 .top).toInt, (v.cs.getD 3 .top).toInt⟩
@[simp] theorem toLv_agg (a b c d : Int) : V.toLv (.agg [.int .i64 a, .int .i64 b, .int .i64 c, .int .i64 d]) = ⟨a, b, c, d⟩ := rfl
end Go.Sx
end
section
namespace Go.Sx
open Go.Proofs
set_option maxHeartbeats 1000000
def win (l : List Int) (i : Nat) : List Int := (l.drop (i - 7)).take (i + 1 - (i - 7))
def hit (l : List Int) (lim num den : Int) (i : Nat) : Bool := decide (lim ≤ l.getD i 0) && decide ((chZ (win l i)).1 * den ≤ num * (chZ (win l i)).2)
end Go.Sx
end
section
namespace Go.Sx
open Go.Proofs
set_option maxHeartbeats 1000000
def tabV (t : List (List Int)) : V := .sl 1 (t.map rl)
@[simp] theorem toLists_tab (t : List (List Int)) : V.toLists (tabV t) = t := toLists_rl t
end Go.Sx
end
section
namespace Go.Sx
open Go.Proofs
theorem okTo_at {se ge : Int} {cells : List (Int × Int)} {n : Nat} (h : okTo se ge cells n = true) {i : Nat} (hi : i < n) : okCe se ge cells i = true := by
  simp only [okTo, List.all_eq_true, List.mem_range] at h
  exact h i hi
theorem ok_cell {se ge : Int} {cells : List (Int × Int)} (h : okCells se ge cells = true) : ∀ c ∈ cells, 0 ≤ c.1 ∧ c.1 < se ∧ 0 ≤ c.2 ∧ c.2 < ge := by
  intro c hc
  obtain ⟨i, hi, rfl⟩ := List.getElem_of_mem hc
  simp only [okCells, Bool.and_eq_true] at h
  have := okTo_at h.2 hi
  have eG : cells.getD i (0, 0) = cells[i] := by simp [List.getD, List.getElem?_eq_getElem hi]
  simp only [okCe, eG, Bool.and_eq_true, withinB, decide_eq_true_eq] at this
  omega
theorem stepB_bit (l : List Nat) (c : Int × Int) (s g : Nat) (hs : s < l.length) : ((stepB l c).getD s 0).testBit g = ((l.getD s 0).testBit g || (decide (c.1.toNat = s) && decide (c.2.toNat = g))) := by
  unfold stepB orN
  simp only [List.getD, List.getElem?_set]
  by_cases h : c.1.toNat = s
  · subst h
    simp [hs, Nat.testBit_or, Nat.testBit_two_pow]
  · simp [h]
theorem bysTo_bit (se : Int) (cells : List (Int × Int)) (s g : Nat) (hs : s < se.toNat) : ∀ k, k ≤ cells.length → ((bysTo se cells k).getD s 0).testBit g = (cells.take k).any fun c => decide (c.1.toNat = s) && decide (c.2.toNat = g) := by
  intro k
  induction k with
  | zero => intro _; simp [bysTo, List.getD, List.getElem?_replicate]; split <;> simp
  | succ k ih =>
    intro hk
    have hk1 : k < cells.length := hk
    rw [bysTo_succ se cells hk1, stepB_bit _ _ _ _ (by rw [bysTo_length]; exact hs), ih (by omega), List.take_succ_eq_append_getElem hk1, List.any_append]
    simp
theorem wornTo_bit (l : List Nat) (set g : Nat) : ∀ k, (wornTo l set k).testBit g = (List.range k).any fun i => !set.testBit i && (l.getD i 0).testBit g := by
  intro k
  induction k with
  | zero => simp [wornTo]
  | succ k ih =>
    rw [wornTo_succ, List.range_succ, List.any_append]
    cases hb : set.testBit k with
    | true => simp [ih, hb]
    | false => simp [orN, Nat.testBit_or, ih, hb]
def cellHit (set g : Nat) (c : Int × Int) : Bool := decide (c.2 = (g : Int)) && !set.testBit c.1.toNat
theorem worn_bit {se ge : Int} {cells : List (Int × Int)} (h : okCells se ge cells = true) (set g : Nat) : (wornN (bysN se cells) set).testBit g = cells.any (cellHit set g) := by
  have hc := ok_cell h
  have hl : (bysN se cells).length = se.toNat := bysTo_length _ _ _
  unfold wornN
  rw [wornTo_bit, hl, Bool.eq_iff_iff]
  simp only [List.any_eq_true, List.mem_range, Bool.and_eq_true, Bool.not_eq_true', cellHit, decide_eq_true_eq]
  constructor
  · rintro ⟨s, hs, h1, h2⟩
    unfold bysN at h2
    rw [bysTo_bit se cells s g hs _ (Nat.le_refl _), List.take_of_length_le (Nat.le_refl _)] at h2
    simp only [List.any_eq_true, Bool.and_eq_true, decide_eq_true_eq] at h2
    obtain ⟨c, hm, h3, h4⟩ := h2
    have := hc c hm
    exact ⟨c, hm, by omega, by rw [h3]; exact h1⟩
  · rintro ⟨c, hm, h3, h4⟩
    have := hc c hm
    refine ⟨c.1.toNat, by omega, h4, ?_⟩
    unfold bysN
    rw [bysTo_bit se cells _ g (by omega) _ (Nat.le_refl _), List.take_of_length_le (Nat.le_refl _)]
    simp only [List.any_eq_true, Bool.and_eq_true, decide_eq_true_eq]
    exact ⟨c, hm, rfl, by omega⟩
theorem memTo_hi {s k j : Nat} (h : ∀ i, k ≤ i → s.testBit i = false) (hkj : k ≤ j) : memTo s j = memTo s k := by
  obtain ⟨d, rfl⟩ : ∃ d, j = k + d := ⟨j - k, by omega⟩
  clear hkj
  induction d with
  | zero => rfl
  | succ d ih =>
    rw [← Nat.add_assoc, memTo_succ, ih, h (k + d) (by omega)]; simp
theorem memN_lt {s k : Nat} (hk : k ≤ 62) (h : s < 2 ^ k) : memN s = memTo s k :=
  memTo_hi (fun i hi => Nat.testBit_lt_two_pow (Nat.lt_of_lt_of_le h (Nat.pow_le_pow_right (by decide) hi))) hk
theorem worn_hi {se ge : Int} {cells : List (Int × Int)} (h : okCells se ge cells = true) (set i : Nat) (hi : ge.toNat ≤ i) : (wornN (bysN se cells) set).testBit i = false := by
  rw [worn_bit h]
  simp only [List.any_eq_false, cellHit, Bool.and_eq_true, decide_eq_true_eq, not_and]
  intro c hc e
  have := ok_cell h c hc
  omega
def wornX (ge : Nat) (set : Nat) (cells : List (Int × Int)) (k : Nat) : List Nat := (List.range k).filter fun g => cells.any (cellHit set g)
theorem wornX_eq {se ge : Int} {cells : List (Int × Int)} (h : okCells se ge cells = true) (set : Nat) : memN (wornN (bysN se cells) set) = wornX ge.toNat set cells ge.toNat := by
  have hg : ge ≤ 12 ∧ 1 ≤ ge := by simp only [okCells, Bool.and_eq_true, withinB, decide_eq_true_eq] at h; omega
  rw [show memN (wornN (bysN se cells) set) = memTo (wornN (bysN se cells) set) ge.toNat from memTo_hi (worn_hi h set) (by omega)]
  unfold memTo wornX
  exact List.filter_congr fun g _ => worn_bit h set g
def exSo (b : List Nat) (k : Nat) : Ex1 := (natI (memN k), natI (memN (wornN b k)))
def szX (x : Ex1) : Nat := x.1.length + x.2.length
theorem stepE_eq (b : List Nat) (out : List Ex1) (k : Nat) : stepE b out k = match out with
    | [] => [exSo b k]
    | y :: out => if szX (exSo b k) > szX y then y :: out else if szX (exSo b k) < szX y then [exSo b k] else (y :: out) ++ [exSo b k] := rfl
theorem expTo_pos (b : List Nat) (k : Nat) : 0 < (expTo b (k + 1)).length := by
  rw [expTo_succ, stepE_eq]
  split
  · simp
  · split
    · simp
    · split <;> simp
theorem minX_mem {l : List Ex1} (h : 0 < l.length) : minX l ∈ l := minTe_mem h _ (Nat.le_refl _)
theorem expTo_filter (b : List Nat) : ∀ k, ∃ f, (∀ j, j < k → f ≤ szX (exSo b j)) ∧ expTo b k = ((List.range k).map (exSo b)).filter fun x => decide (szX x = f) := by
  intro k
  induction k with
  | zero => exact ⟨0, fun j h => by omega, by simp [expTo]⟩
  | succ k ih =>
    obtain ⟨f, hf, he⟩ := ih
    rw [expTo_succ, stepE_eq]
    cases ho : expTo b k with
    | nil =>
      cases k with
      | zero => exact ⟨szX (exSo b 0), fun j h => by rw [show j = 0 by omega]; exact Nat.le_refl _, by simp [List.range_succ]⟩
      | succ k => have := expTo_pos b k; rw [ho] at this; simp at this
    | cons y out =>
      have hy : szX y = f := by
        have : y ∈ expTo b k := by rw [ho]; simp
        rw [he, List.mem_filter] at this
        simpa using this.2
      simp only
      have hr : ∀ g, ((List.range (k + 1)).map (exSo b)).filter (fun x => decide (szX x = g)) = ((List.range k).map (exSo b)).filter (fun x => decide (szX x = g)) ++ if szX (exSo b k) = g then [exSo b k] else [] := by
        intro g
        rw [List.range_succ, List.map_append, List.filter_append]
        by_cases hg : szX (exSo b k) = g <;> simp [hg]
      by_cases h1 : szX (exSo b k) > szX y
      · refine ⟨f, fun j hj => ?_, ?_⟩
        · by_cases e : j = k
          · subst e; omega
          · exact hf j (by omega)
        · rw [if_pos h1, hr, ← he, ho, if_neg (by omega), List.append_nil]
      · rw [if_neg h1]
        by_cases h2 : szX (exSo b k) < szX y
        · refine ⟨szX (exSo b k), fun j hj => ?_, ?_⟩
          · by_cases e : j = k
            · subst e; exact Nat.le_refl _
            · have := hf j (by omega); omega
          · rw [if_pos h2, hr, if_pos rfl]
            have : ((List.range k).map (exSo b)).filter (fun x => decide (szX x = szX (exSo b k))) = [] := by
              rw [List.filter_eq_nil_iff]
              intro x hx
              obtain ⟨j, hj, rfl⟩ := List.mem_map.1 hx
              have := hf j (List.mem_range.1 hj)
              simp only [decide_eq_true_eq]; omega
            rw [this, List.nil_append]
        · refine ⟨f, fun j hj => ?_, ?_⟩
          · by_cases e : j = k
            · subst e; omega
            · exact hf j (by omega)
          · rw [if_neg h2, hr, ← he, ho, if_pos (by omega)]
def fewest (b : List Nat) (se : Nat) : Nat := szX (minX (expN b se))
def minsTo (b : List Nat) (se k : Nat) : List Ex1 := ((List.range k).map (exSo b)).filter fun x => decide (szX x = fewest b se)
theorem minsTo_all (b : List Nat) (se : Nat) : minsTo b se (2 ^ se) = expN b se := by
  have hp := expN_pos b se
  obtain ⟨f, hf, he⟩ := expTo_filter b (2 ^ se)
  have hm := minX_mem hp
  have : fewest b se = f := by
    unfold fewest
    unfold expN at hm ⊢
    rw [he, List.mem_filter] at hm
    rw [he]
    simpa using hm.2
  unfold minsTo expN
  rw [this, he]
theorem expN_at {b : List Nat} {se : Nat} {x : Ex1} (h : x ∈ expN b se) : ∃ k, k < 2 ^ se ∧ x = exSo b k := by
  rw [← minsTo_all] at h
  unfold minsTo at h
  obtain ⟨k, hk, rfl⟩ := List.mem_map.1 (List.mem_filter.1 h).1
  exact ⟨k, List.mem_range.1 hk, rfl⟩
theorem cmp_pair (a b c d : Int) : (cmpL [a, b] [c, d] < 0) ↔ (a < c ∨ (a = c ∧ b < d)) := by
  simp only [cmpL, cmpZ]
  split <;> (try split) <;> (try split) <;> (try split) <;> (try split) <;> omega
end Go.Sx
end
section
namespace Go.Sx
open Go.Proofs
set_option maxHeartbeats 1000000
end Go.Sx
end
section
namespace Go.Sx
open Go.Proofs
set_option maxHeartbeats 1000000
end Go.Sx
end
section
namespace Go.Sx
open Go.Proofs
set_option maxHeartbeats 1000000
end Go.Sx
end
section
namespace Go.Sx
open Go.Proofs
set_option maxHeartbeats 1000000
end Go.Sx
end
section
namespace Go.Sx
open Go.Proofs
set_option maxHeartbeats 1000000
end Go.Sx
end
section
namespace Go.Sx
open Go.Proofs
set_option maxHeartbeats 1000000
end Go.Sx
end
section
namespace Go.Sx
open Go.Proofs
set_option maxHeartbeats 1000000
end Go.Sx
end
section
namespace Go.Sx
open Go.Proofs
theorem filter_one (c G : Nat) : (List.range G).filter (fun g => decide (g = c)) = if c < G then [c] else [] := by
  induction G with
  | zero => simp
  | succ G ih =>
    rw [List.range_succ, List.filter_append, ih]
    by_cases h : G = c
    · subst h; simp
    · have : (decide (G = c)) = false := by simpa using h
      simp only [List.filter_cons, List.filter_nil, this]
      by_cases h2 : c < G
      · simp [h2, Nat.lt_succ_of_lt h2]
      · simp [h2]; omega
theorem all_one {b : List Nat} {n : Nat} {y : Ex1} (h : ∀ x ∈ expN b n, x = y) : minX (expN b n) = y := h _ (minX_mem (expN_pos b n))
theorem fewest_le {b : List Nat} {n : Nat} {x : Ex1} (hx : x ∈ expN b n) {k : Nat} (hk : k < 2 ^ n) : szX x ≤ szX (exSo b k) := by
  obtain ⟨f, hf, he⟩ := expTo_filter b (2 ^ n)
  unfold expN at hx
  rw [he, List.mem_filter, decide_eq_true_eq] at hx
  rw [hx.2]; exact hf k hk
theorem memN_mem {k n i : Nat} (hn : n ≤ 62) (hk : k < 2 ^ n) : i ∈ memN k ↔ (i < n ∧ k.testBit i = true) := by
  rw [memN_lt hn hk, memTo, List.mem_filter, List.mem_range]
theorem one_list {l : List Nat} {x : Nat} (h : l.length ≤ 1) (hx : x ∈ l) : l = [x] := by
  match l, h, hx with
  | [y], _, hx => simp at hx; rw [hx]
theorem worn_len {S G : Nat} {cells : List (Int × Int)} (h : okCells S G cells = true) (k : Nat) : (exSo (bysN S cells) k).2 = natI ((List.range G).filter fun g => cells.any (cellHit k g)) := by
  simp only [exSo]; rw [wornX_eq h]; rfl
end Go.Sx
end
section
namespace Go.Sx
open Go.Proofs
theorem expl_at {S G : Nat} {cells : List (Int × Int)} (h : okCells S G cells = true) : ∃ k, k < 2 ^ S ∧ minX (expN (bysN S cells) S) = exSo (bysN S cells) k :=
  expN_at (minX_mem (expN_pos _ _))
theorem expl_worn {S G : Nat} {cells : List (Int × Int)} : ∀ g ∈ (explR S G cells).2.1, 0 ≤ g ∧ g < G := by
  intro g hg
  unfold explR at hg
  split at hg
  · rename_i h
    obtain ⟨k, _, e⟩ := expl_at h
    rw [Int.toNat_natCast, e] at hg
    simp only [worn_len h, natI, List.mem_map, List.mem_filter, List.mem_range] at hg
    obtain ⟨n, ⟨h1, _⟩, rfl⟩ := hg
    omega
  · simp at hg
theorem expl_len {S G : Nat} {cells : List (Int × Int)} : (explR S G cells).2.1.length ≤ G := by
  unfold explR
  split
  · rename_i h
    obtain ⟨k, _, e⟩ := expl_at h
    rw [Int.toNat_natCast, e]
    simp only [worn_len h, natI_length]
    have := List.length_filter_le (fun g => cells.any (cellHit k g)) (List.range G)
    rwa [List.length_range] at this
  · simp
theorem expl_ok {S G : Nat} {cells : List (Int × Int)} (h : (explR S G cells).2.2 = 0) : okCells S G cells = true := by
  unfold explR at h
  split at h
  · assumption
  · simp at h
theorem no_cell {S G : Nat} : (explR S G []).2.1 = [] := by
  unfold explR
  split
  · rename_i h
    obtain ⟨k, _, e⟩ := expl_at h
    rw [Int.toNat_natCast, e]
    simp only [worn_len h]
    simp [natI]
  · rfl
theorem one_gear {S G : Nat} {cells : List (Int × Int)} {c : Int} (hok : okCells S G cells = true) (h2 : 2 ≤ cells.length) (hc : ∀ x ∈ cells, x.2 = c) : explR S G cells = ([], [c], 0) := by
  have hcell := ok_cell hok
  have hS : S ≤ 62 := by have := okCells_facts hok; omega
  have hworn := worn_len hok
  have h0 : 0 < cells.length := by omega
  have h1 : 1 < cells.length := by omega
  have m0 := List.getElem_mem h0
  have m1 := List.getElem_mem h1
  have c0 := hcell _ m0
  have c1 := hcell _ m1
  have hc0 := hc _ m0
  have hc1 := hc _ m1
  have hne : cells[0].1 < cells[1].1 := by
    have ho : okTo S G cells cells.length = true := by simp only [okCells, Bool.and_eq_true] at hok; exact hok.2
    have := okTo_at ho h1
    have g0 : cells.getD 0 (0, 0) = cells[0] := by simp [List.getD, h0]
    have g1 : cells.getD 1 (0, 0) = cells[1] := by simp [List.getD, h1]
    simp only [okCe, g1, Nat.sub_self, g0, Bool.and_eq_true, Bool.or_eq_true, beq_iff_eq, decide_eq_true_eq, cmp_pair] at this
    omega
  obtain ⟨C, rfl⟩ : ∃ C : Nat, c = C := ⟨c.toNat, by omega⟩
  have hC : C < G := by omega
  unfold explR
  rw [if_pos hok, Int.toNat_natCast]
  have hk : (0 : Nat) < 2 ^ S := Nat.two_pow_pos S
  have hitv : ∀ k g, cells.any (cellHit k g) = (decide (g = C) && cells.any fun x => !k.testBit x.1.toNat) := by
    intro k g
    rw [Bool.eq_iff_iff]
    simp only [List.any_eq_true, cellHit, Bool.and_eq_true, decide_eq_true_eq]
    constructor
    · rintro ⟨x, hx, e1, e2⟩
      have := hc x hx
      exact ⟨by omega, x, hx, e2⟩
    · rintro ⟨e1, x, hx, e2⟩
      exact ⟨x, hx, by rw [hc x hx, e1], e2⟩
  have e2 : ∀ k, (exSo (bysN S cells) k).2 = if cells.any (fun x => !k.testBit x.1.toNat) then [(C : Int)] else [] := by
    intro k
    rw [hworn]
    cases ha : cells.any (fun x => !k.testBit x.1.toNat) with
    | true =>
      rw [List.filter_congr (q := fun g => decide (g = C)) (fun g _ => by rw [hitv, ha, Bool.and_true]), filter_one, if_pos hC]; rfl
    | false =>
      rw [List.filter_congr (q := fun g => false) (fun g _ => by rw [hitv, ha, Bool.and_false])]; simp [natI]
  have mm0 : memN 0 = [] := by simp [memN, memTo]
  have a0 : cells.any (fun x => !(0 : Nat).testBit x.1.toNat) = true := by
    rw [List.any_eq_true]; exact ⟨_, m0, by simp⟩
  have z1 : szX (exSo (bysN S cells) 0) = 1 := by
    unfold szX
    rw [e2, a0]
    simp [exSo, mm0]
  have : minX (expN (bysN S cells) S) = ([], [(C : Int)]) := by
    refine all_one fun x hx => ?_
    have hle := fewest_le hx hk
    obtain ⟨k, hk2, rfl⟩ := expN_at hx
    rw [z1] at hle
    unfold szX at hle
    rw [e2] at hle
    have hx1 : (exSo (bysN S cells) k).1 = natI (memN k) := rfl
    rw [hx1, natI_length] at hle
    cases hb : cells.any (fun x => !k.testBit x.1.toNat) with
    | false =>
      exfalso
      rw [List.any_eq_false] at hb
      have b0 := hb _ m0
      have b1 := hb _ m1
      have t0 : cells[0].1.toNat ∈ memN k := (memN_mem hS hk2).2 ⟨by omega, by simpa using b0⟩
      have t1 : cells[1].1.toNat ∈ memN k := (memN_mem hS hk2).2 ⟨by omega, by simpa using b1⟩
      have := one_list (l := memN k) (by omega) t0
      rw [this] at t1
      simp at t1
      omega
    | true =>
      rw [hb] at hle
      simp only [if_true, List.length_singleton] at hle
      have : memN k = [] := List.eq_nil_of_length_eq_zero (by omega)
      refine Prod.ext ?_ ?_
      · rw [hx1, this]; rfl
      · rw [e2, hb, if_pos rfl]
  rw [this]
theorem exx : FnOK Tryz.prog 23 (.pure ExplainS) ∧ (∀ (S G : Nat) (cells : List (Int × Int)) (c : Int), okCells S G cells = true → 2 ≤ cells.length → (∀ x ∈ cells, x.2 = c) → explR S G cells = ([], [c], 0)) ∧
    (∀ (S G : Nat), (explR S G []).2.1 = []) ∧ (∀ (S G : Nat) (cells : List (Int × Int)), (explR S G cells).2.2 = 0 → okCells S G cells = true) ∧ (∀ (S G : Nat) (cells : List (Int × Int)), (explR S G cells).2.1.length ≤ G) ∧ (∀ (S G : Nat) (cells : List (Int × Int)), ∀ g ∈ (explR S G cells).2.1, 0 ≤ g ∧ g < G) :=
  ⟨ok23, fun _ _ _ _ => one_gear, fun _ _ => no_cell, fun _ _ _ => expl_ok, fun _ _ _ => expl_len, fun _ _ _ => expl_worn⟩
end Go.Sx
end
