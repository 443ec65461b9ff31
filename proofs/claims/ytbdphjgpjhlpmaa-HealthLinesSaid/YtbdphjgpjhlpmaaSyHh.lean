/- A part of a proof; no conditions. -/
import Derived.Test.YtbdphjgpjhlpmaaSyHg
set_option linter.unusedSimpArgs false
set_option linter.unusedVariables false
set_option maxRecDepth 100000
namespace Go.Sx
open Go.Proofs

/-! sets -/
def natI (l : List Nat) : List Int := l.map fun n : Nat => (n : Int)
@[simp] theorem natI_length (l : List Nat) : (natI l).length = l.length := by simp [natI]
def nats (l : List Nat) : V := ints (natI l)
def rn (n : Nat) : List V := [.int .i64 (n : Int)]
theorem nats_eq (l : List Nat) : nats l = .sl 1 (l.map rn) := by simp [nats, natI, ints, rn, ri, Function.comp_def]
def V.toNats (v : V) : List Nat := v.toInts.map Int.toNat
@[simp] theorem toNats_nats (l : List Nat) : (nats l).toNats = l := by
  unfold V.toNats nats natI
  rw [toInts_ints, List.map_map]
  simp [Function.comp_def]
@[simp] theorem toNats_rn (l : List Nat) : (V.sl 1 (l.map rn)).toNats = l := by rw [← nats_eq, toNats_nats]
def memTo (s k : Nat) : List Nat := (List.range k).filter fun n => s.testBit n
def memN (s : Nat) : List Nat := memTo s 62
theorem memTo_len (s k : Nat) : (memTo s k).length ≤ k := by
  have := List.length_filter_le (fun n => s.testBit n) (List.range k)
  simpa [memTo] using this
theorem memTo_succ (s k : Nat) : memTo s (k + 1) = memTo s k ++ if s.testBit k then [k] else [] := by
  simp only [memTo, List.range_succ, List.filter_append, List.filter_cons, List.filter_nil]
theorem memTo_all {s k : Nat} (hk : k ≤ 62) (h : s >>> k = 0) : memTo s k = memN s := by
  have key : ∀ j, memTo s (k + j) = memTo s k := by
    intro j
    induction j with
    | zero => rfl
    | succ j ih =>
      rw [← Nat.add_assoc, memTo_succ, ih]
      have : s.testBit (k + j) = false := by
        have h1 : (s >>> k).testBit j = s.testBit (k + j) := Nat.testBit_shiftRight ..
        rw [h, Nat.zero_testBit] at h1
        exact h1.symm
      simp [this]
  have := key (62 - k)
  rw [show k + (62 - k) = 62 by omega] at this
  exact this.symm
abbrev membersS : PSpec := { dom := Nat, enc := fun s => [.int .i64 (s : Int)], dec := fun l => (l.getD 0 .top).toInt.toNat, pre := fun s => s < 4611686018427387904, res := fun s => nats (memN s) }
noncomputable abbrev E55 : Env := { P := Try.prog, fn := tbl [], own := [], key := 5500, nt := 20 }
theorem b55 : PureBody E55 [] Try.f55 membersS := by
  refine pb ?_
  rintro s hs
  simp -dsimp [Try.f55, E55, nats_eq]
  refine awp_loop_g [(2, 5599, 1, 3)] rfl (by simp) [4, 5, 6, 7, 10, 11, 12, 13, 14, 15, 16, 17, 18, 2, 8, 9, 3]
    (fun k : Fin 63 => [(3, (true, .int .i64 (k.1 : Nat))), (2, (true, .bsl 5599 0 (memTo s k.1).length))])
    (fun k => hps [(5599, { base := 0, blks := [{ z := 1, els := (memTo s k.1).map rn, ty := 3 }] })] noH) (fun k => 62 - k.1) ⟨0, by omega⟩ ?_ (HLe.of_eq (by simp [memTo])) ?_
  · simp [okAll, okv, memTo]
  rintro ⟨k, hk⟩
  have h1 := bit_shr s k (by omega)
  have hle : sr s k ≤ s := by unfold sr; rw [Nat.shiftRight_eq_div_pow]; exact Nat.div_le_self _ _
  have h2 := bit_and (a := sr s k) (b := 1) (by omega) (by decide)
  simp only [Int.natCast_one] at h2
  have hml := memTo_len s k
  by_cases h0 : sr s k = 0
  · have e0 : ¬ (0 : Int) < (sr s k : Int) := by omega
    have ea := memTo_all (by omega) h0
    simp -dsimp [h1, e0, ea]
    repeat' (first | omega | (simp -dsimp [E55, ri, cellp, ints, h1, e0, ea]) | (refine Also.intro ?_ fun _ => ?_) | (refine Hold.intro fun _ => ?_) | (refine And.intro ?_ ?_))
  · have e0 : (0 : Int) < (sr s k : Int) := by omega
    have hk2 : k < 62 := by
      have : ¬ k = 62 := by
        intro e; subst e
        apply h0
        unfold sr; rw [Nat.shiftRight_eq_div_pow]
        exact Nat.div_eq_of_lt (by omega)
      omega
    have w1 : IntKind.wrap .i64 ((k : Int) + 1) = (k + 1 : Nat) := wrap_id (by omega) (by omega)
    have hb := bit_one s k
    by_cases ht : s.testBit k = true
    · rw [if_pos ht] at hb
      rw [hb] at h2
      have hs2 := memTo_succ s k
      rw [if_pos ht] at hs2
      simp -dsimp [h1, h2, e0]
      repeat' (first | omega | (simp -dsimp [E55, ri, cellp, ints, h1, h2, e0, w1]) | (refine Also.intro ?_ fun _ => ?_) | (refine Hold.intro fun _ => ?_) | (refine And.intro ?_ ?_))
      refine ⟨⟨k + 1, by omega⟩, tle_chain rfl ?_, HLe.of_eq (by simp [hs2, rn]), by simp only; omega⟩
      simp [okAll, okv, hs2]
    · have ht' : s.testBit k = false := by simpa using ht
      rw [if_neg ht] at hb
      rw [hb] at h2
      have hs2 := memTo_succ s k
      rw [if_neg ht, List.append_nil] at hs2
      simp -dsimp [h1, h2, e0]
      repeat' (first | omega | (simp -dsimp [E55, ri, cellp, ints, h1, h2, e0, w1]) | (refine Also.intro ?_ fun _ => ?_) | (refine Hold.intro fun _ => ?_) | (refine And.intro ?_ ?_))
      refine ⟨⟨k + 1, by omega⟩, tle_chain rfl ?_, HLe.of_eq (by simp [hs2]), by simp only; omega⟩
      simp [okAll, okv, hs2]
theorem ok55 : FnOK Try.prog 55 (.pure membersS) := pure_fn (E := E55) rfl LOK.nil (ok := []) (fn := Try.f55) (by kernel_rfl) (by kernel_rfl) (by kernel_rfl) (by kernel_rfl) rfl (fun _ _ => by simp) b55

/-! worn, size -/
structure BoxD where
  se : Int
  ge : Int
  cells : List (List V)
  bys : List Nat
def boxV (d : BoxD) : V := .ip 4 [[.int .i64 d.se, .int .i64 d.ge, .sl 2 d.cells, .sl 1 (d.bys.map rn)]] 0 0
def V.row0 : V → List V
  | .ip _ els _ _ => els.getD 0 []
  | _ => []
def V.toBox (v : V) : BoxD := ⟨(v.row0.getD 0 .top).toInt, (v.row0.getD 1 .top).toInt, (v.row0.getD 2 .top).rows, (v.row0.getD 3 .top).toNats⟩
@[simp] theorem toBox_boxV (d : BoxD) : (boxV d).toBox = d := by
  simp [boxV, V.toBox, V.row0]
@[simp] theorem toBox_ip (se ge : Int) (cells : List (List V)) (l : List Nat) : V.toBox (.ip 4 [[.int .i64 se, .int .i64 ge, .sl 2 cells, .sl 1 (l.map rn)]] 0 0) = ⟨se, ge, cells, l⟩ := by
  simp [V.toBox, V.row0]
def wornTo (l : List Nat) (loose k : Nat) : Nat := (List.range k).foldl (fun a i => if loose.testBit i then a else orN a (l.getD i 0)) 0
theorem wornTo_succ (l : List Nat) (loose k : Nat) : wornTo l loose (k + 1) = if loose.testBit k then wornTo l loose k else orN (wornTo l loose k) (l.getD k 0) := by
  simp [wornTo, List.range_succ, List.foldl_append]
def wornN (l : List Nat) (loose : Nat) : Nat := wornTo l loose l.length
theorem wornTo_lt {l : List Nat} {n : Nat} (h : ∀ x ∈ l, x < 2 ^ n) (loose k : Nat) : wornTo l loose k < 2 ^ n := by
  induction k with
  | zero => simp [wornTo]; exact Nat.two_pow_pos n
  | succ k ih =>
    rw [wornTo_succ]
    split
    · exact ih
    · refine Nat.or_lt_two_pow ih ?_
      simp only [List.getD]
      cases e : l[k]? with
      | none => simp; exact Nat.two_pow_pos n
      | some x => simp; exact h x (List.mem_of_getElem? e)
abbrev wornS : PSpec := { dom := BoxD × Nat, enc := fun d => [boxV d.1, .int .i64 (d.2 : Int)], dec := fun l => ((l.getD 0 .top).toBox, (l.getD 1 .top).toInt.toNat), pre := fun d => d.1.bys.length ≤ 12 ∧ (∀ x ∈ d.1.bys, x < 2 ^ 12) ∧ d.2 < 2 ^ 12, res := fun d => .int .i64 (wornN d.1.bys d.2 : Int) }
noncomputable abbrev E56 : Env := { P := Try.prog, fn := tbl [], own := [], key := 5600, nt := 27 }
theorem b56 : PureBody E56 [] Try.f56 wornS := by
  refine pb ?_
  rintro ⟨⟨se, ge, cells, l⟩, s⟩ ⟨p1, p2, p3⟩
  simp only at p1 p2 p3
  simp -dsimp [Try.f56, E56, boxV]
  refine awp_loop [13, 14, 15, 16, 5, 6, 17, 18, 19, 20, 21, 22, 23, 24, 4, 25, 12]
    (fun k : Fin (l.length + 1) => [(12, (true, .int .i64 (k.1 : Nat))), (4, (true, .int .i64 (wornTo l s k.1 : Int)))])
    (fun k => noH) (fun k => l.length - k.1) ⟨0, by omega⟩ ?_ (HLe.refl _) ?_
  · simp [okAll, okv, wornTo]
  rintro ⟨k, hk⟩
  by_cases hk1 : k < l.length
  · have h1 := bit_shr s k (by omega)
    have hle : sr s k ≤ s := by unfold sr; rw [Nat.shiftRight_eq_div_pow]; exact Nat.div_le_self _ _
    have h2 := bit_and (a := sr s k) (b := 1) (by omega) (by decide)
    simp only [Int.natCast_one] at h2
    have w1 : IntKind.wrap .i64 ((k : Int) + 1) = (k + 1 : Nat) := wrap_id (by omega) (by omega)
    have hw := wornTo_lt p2 s k
    have hx := p2 l[k] (List.getElem_mem hk1)
    have h3 := bit_or (a := wornTo l s k) (b := l[k]) (by omega) (by omega)
    have hs2 := wornTo_succ l s k
    have eG : l.getD k 0 = l[k] := by simp [List.getD, List.getElem?_eq_getElem hk1]
    rw [eG] at hs2
    have hb := bit_one s k
    by_cases ht : s.testBit k = true
    · rw [if_pos ht] at hb hs2
      rw [hb] at h2
      simp -dsimp [h1, h2, hk1, rn]
      repeat' (first | omega | (simp -dsimp [E56, ri, cellp, ints, h1, h2, w1, hk1, rn]) | (refine Also.intro ?_ fun _ => ?_) | (refine Hold.intro fun _ => ?_) | (refine And.intro ?_ ?_))
      refine ⟨⟨k + 1, by omega⟩, tle_chain rfl ?_, HLe.refl _, by simp only; omega⟩
      simp [okAll, okv, hs2]
    · rw [if_neg ht] at hb hs2
      rw [hb] at h2
      simp -dsimp [h1, h2, hk1, rn]
      repeat' (first | omega | (simp -dsimp [E56, ri, cellp, ints, h1, h2, h3, w1, hk1, rn]) | (refine Also.intro ?_ fun _ => ?_) | (refine Hold.intro fun _ => ?_) | (refine And.intro ?_ ?_))
      refine ⟨⟨k + 1, by omega⟩, tle_chain rfl ?_, HLe.refl _, by simp only; omega⟩
      simp [okAll, okv, hs2]
  · have : k = l.length := by omega
    subst this
    simp -dsimp [wornN]
    repeat' (first | omega | (simp -dsimp [E56, ri, cellp, ints, wornN]) | (refine Also.intro ?_ fun _ => ?_) | (refine Hold.intro fun _ => ?_) | (refine And.intro ?_ ?_))
theorem ok56 : FnOK Try.prog 56 (.pure wornS) := pure_fn (E := E56) rfl LOK.nil (ok := []) (fn := Try.f56) (by kernel_rfl) (by kernel_rfl) (by kernel_rfl) (by kernel_rfl) rfl (fun _ _ => by simp) b56
abbrev sizeS : PSpec := { dom := List Int × List Int, enc := fun d => [.agg [ints d.1, ints d.2]], dec := fun l => ((((l.getD 0 .top).cs.getD 0 .top)).toInts, ((l.getD 0 .top).cs.getD 1 .top).toInts), pre := fun d => d.1.length ≤ 1000000 ∧ d.2.length ≤ 1000000, res := fun d => .int .i64 (d.1.length + d.2.length : Nat) }
noncomputable abbrev E57 : Env := { P := Try.prog, fn := tbl [], own := [], key := 5700, nt := 10 }
theorem b57 : PureBody E57 [] Try.f57 sizeS := by
  refine pb ?_
  rintro ⟨a, b⟩ ⟨p1, p2⟩
  simp only at p1 p2
  have w1 : IntKind.wrap .i64 ((a.length : Int) + b.length) = (a.length + b.length : Nat) := wrap_id (by omega) (by omega)
  simp -dsimp [Try.f57, E57, ints]
  repeat' (first | omega | (simp -dsimp [E57, ri, cellp, ints, w1]) | (refine Also.intro ?_ fun _ => ?_) | (refine Hold.intro fun _ => ?_) | (refine And.intro ?_ ?_))
theorem ok57 : FnOK Try.prog 57 (.pure sizeS) := pure_fn (E := E57) rfl LOK.nil (ok := []) (fn := Try.f57) (by kernel_rfl) (by kernel_rfl) (by kernel_rfl) (by kernel_rfl) rfl (fun _ _ => by simp) b57
end Go.Sx


