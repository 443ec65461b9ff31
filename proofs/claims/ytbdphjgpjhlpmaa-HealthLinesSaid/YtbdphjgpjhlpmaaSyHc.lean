/- A part of a proof; no conditions. -/
import Derived.Test.YtbdphjgpjhlpmaaSyHb
set_option linter.unusedSimpArgs false
set_option linter.unusedVariables false
set_option maxRecDepth 100000
namespace Go.Sx
open Go.Proofs


theorem gcd_step {a b : Int} (h1 : 0 ≤ a) (h2 : 0 < b) : Int.gcd b (a.tmod b) = Int.gcd a b := by
  obtain ⟨m, rfl⟩ := Int.eq_ofNat_of_zero_le h1
  obtain ⟨n, rfl⟩ := Int.eq_ofNat_of_zero_le (Int.le_of_lt h2)
  rw [← Int.ofNat_tmod]
  show Nat.gcd n (m % n) = Nat.gcd m n
  rw [Nat.gcd_comm n, ← Nat.gcd_rec, Nat.gcd_comm]
theorem tdiv_fits {n g : Int} (hg : 0 < g) (h1 : -9223372036854775807 ≤ n) (h2 : n ≤ 9223372036854775807) : IntKind.wrap .i64 (n.tdiv g) = n.tdiv g := by
  have h := Int.natAbs_tdiv_le_natAbs n g
  exact wrap_id (by omega) (by omega)
theorem gcd_pos {n d : Int} (h : 0 < d) : 0 < (Int.gcd n d : Int) := by
  have := Int.gcd_pos_of_ne_zero_right n (show d ≠ 0 by omega)
  omega
theorem gcd_end {a b : Int} {n d : Int} (h1 : 0 ≤ a) (h2 : 0 ≤ b) (hb : b ≤ 0) (h : Int.gcd a b = Int.gcd n d) : a = (Int.gcd n d : Int) := by
  have : b = 0 := by omega
  subst this
  rw [← h, Int.gcd_zero_right]
  omega
def lowN (num den : Int) : Int := num.tdiv (Int.gcd num den)
def lowD (num den : Int) : Int := den.tdiv (Int.gcd num den)
def lowPre (num den : Int) : Prop := 0 < den ∧ den ≤ 9223372036854775807 ∧ -9223372036854775807 ≤ num ∧ num ≤ 9223372036854775807
abbrev fracS : PSpec := { dom := Int × Int, enc := fun d => [.agg [.int .i64 d.1, .int .i64 d.2]], dec := fun l => (((l.getD 0 .top).cs.getD 0 .top).toInt, ((l.getD 0 .top).cs.getD 1 .top).toInt), pre := fun d => lowPre d.1 d.2, res := fun d => .tup [.int .i64 (lowN d.1 d.2), .int .i64 (lowD d.1 d.2)] }
noncomputable abbrev E12 : Env := { P := Try.prog, fn := tbl [], own := [], key := 1200, nt := 28 }
theorem b12 : PureBody E12 [] Try.f12 fracS := by
  refine pb ?_
  rintro ⟨num, den⟩ hl
  obtain ⟨hd, hd2, hn1, hn2⟩ := hl
  simp only at hd hd2 hn1 hn2
  have hneg : IntKind.wrap .i64 (-num) = -num := wrap_id (by omega) (by omega)
  simp -dsimp [Try.f12, E12, hneg]
  repeat' (first | omega | (simp -dsimp [E12, ri, cellp, ints, *]) | (refine Also.intro ?_ fun _ => ?_) | (refine Hold.intro fun _ => ?_) | (refine And.intro ?_ ?_))
  refine awp_loop [14, 15, 16, 17, 18, 19, 4, 5] (fun p : { p : Int × Int // 0 ≤ p.1 ∧ 0 ≤ p.2 ∧ p.1 ≤ 9223372036854775807 ∧ p.2 ≤ 9223372036854775807 ∧ Int.gcd p.1 p.2 = Int.gcd num den } => [(4, (true, .int .i64 p.1.1)), (5, (true, .int .i64 p.1.2))])
    (fun _ => hps [(1201, { base := 0, blks := [{ z := 2, els := [[V.int IntKind.i64 num, V.int IntKind.i64 den]], ty := 35 }] })] noH) (fun p => p.1.2.toNat) ⟨(if num < -num then -num else num, den), ?_⟩ ?_ (HLe.refl _) ?_
  · refine ⟨by simp only; split <;> omega, by simp only; omega, by simp only; split <;> omega, by simp only; omega, ?_⟩
    simp only
    split
    · rw [Int.neg_gcd]
    · rfl
  · simp [okAll, okv]
  rintro ⟨⟨a, b⟩, h1, h2, h3, h4, h5⟩
  simp only at h1 h2 h3 h4 h5
  simp -dsimp
  repeat' (first | omega | (simp -dsimp [E12, ri, cellp, ints, *]) | (refine Also.intro ?_ fun _ => ?_) | (refine Hold.intro fun _ => ?_) | (refine And.intro ?_ ?_))
  · have e := gcd_step (a := a) (b := b) h1 (by omega)
    have k1 := Int.tmod_lt_of_pos a (show 0 < b by omega)
    have k2 := Int.tmod_nonneg b h1
    refine ⟨b, a.tmod b, tle_chain rfl ?_, HLe.refl _, ⟨h2, k2, h4, by omega, by rw [e, h5]⟩, by omega⟩
    simp [okAll, okv]
  · have := gcd_end h1 h2 (by assumption) h5
    have := gcd_pos (n := num) hd
    omega
  · have e := gcd_end h1 h2 (by assumption) h5
    have := gcd_pos (n := num) hd
    rw [tdiv_fits (by omega) hn1 hn2, lowN, ← e]
  · have e := gcd_end h1 h2 (by assumption) h5
    have := gcd_pos (n := num) hd
    rw [tdiv_fits (by omega) (by omega) hd2, lowD, ← e]
theorem ok12 : FnOK Try.prog 12 (.pure fracS) := pure_fn (E := E12) rfl LOK.nil (ok := []) (fn := Try.f12) (by kernel_rfl) (by kernel_rfl) (by kernel_rfl) (by kernel_rfl) rfl (fun _ _ => by simp) b12
abbrev fracS2 : PSpec := { fracS with enc := fun d => [.int .i64 d.1, .int .i64 d.2], dec := fun l => ((l.getD 0 .top).toInt, (l.getD 1 .top).toInt) }
noncomputable abbrev E15 : Env := { P := Try.prog, fn := tbl [], own := [], key := 1500, nt := 27 }
theorem b15 : PureBody E15 [] Try.f15 fracS2 := by
  refine pb ?_
  rintro ⟨num, den⟩ hl
  obtain ⟨hd, hd2, hn1, hn2⟩ := hl
  simp only at hd hd2 hn1 hn2
  have hneg : IntKind.wrap .i64 (-num) = -num := wrap_id (by omega) (by omega)
  simp -dsimp [Try.f15, E15, hneg]
  repeat' (first | omega | (simp -dsimp [E15, ri, cellp, ints, *]) | (refine Also.intro ?_ fun _ => ?_) | (refine Hold.intro fun _ => ?_) | (refine And.intro ?_ ?_))
  refine awp_loop [14, 15, 16, 17, 18, 8, 19, 6, 20, 7] (fun p : { p : Int × Int // 0 ≤ p.1 ∧ 0 ≤ p.2 ∧ p.1 ≤ 9223372036854775807 ∧ p.2 ≤ 9223372036854775807 ∧ Int.gcd p.1 p.2 = Int.gcd num den } => [(6, (true, .int .i64 p.1.1)), (7, (true, .int .i64 p.1.2))])
    (fun _ => noH) (fun p => p.1.2.toNat) ⟨(if num < -num then -num else num, den), ?_⟩ ?_ (HLe.refl _) ?_
  · refine ⟨by simp only; split <;> omega, by simp only; omega, by simp only; split <;> omega, by simp only; omega, ?_⟩
    simp only
    split
    · rw [Int.neg_gcd]
    · rfl
  · simp [okAll, okv]
  rintro ⟨⟨a, b⟩, h1, h2, h3, h4, h5⟩
  simp only at h1 h2 h3 h4 h5
  simp -dsimp
  repeat' (first | omega | (simp -dsimp [E15, ri, cellp, ints, *]) | (refine Also.intro ?_ fun _ => ?_) | (refine Hold.intro fun _ => ?_) | (refine And.intro ?_ ?_))
  · have e := gcd_step (a := a) (b := b) h1 (by omega)
    have k1 := Int.tmod_lt_of_pos a (show 0 < b by omega)
    have k2 := Int.tmod_nonneg b h1
    refine ⟨b, a.tmod b, tle_chain rfl ?_, HLe.refl _, ⟨h2, k2, h4, by omega, by rw [e, h5]⟩, by omega⟩
    simp [okAll, okv]
  · have := gcd_end h1 h2 (by assumption) h5
    have := gcd_pos (n := num) hd
    omega
  · have e := gcd_end h1 h2 (by assumption) h5
    have := gcd_pos (n := num) hd
    rw [tdiv_fits (by omega) hn1 hn2, lowN, ← e]
  · have e := gcd_end h1 h2 (by assumption) h5
    have := gcd_pos (n := num) hd
    rw [tdiv_fits (by omega) (by omega) hd2, lowD, ← e]
theorem ok15 : FnOK Try.prog 15 (.pure fracS2) := pure_fn (E := E15) rfl LOK.nil (ok := []) (fn := Try.f15) (by kernel_rfl) (by kernel_rfl) (by kernel_rfl) (by kernel_rfl) rfl (fun _ _ => by simp) b15
end Go.Sx


