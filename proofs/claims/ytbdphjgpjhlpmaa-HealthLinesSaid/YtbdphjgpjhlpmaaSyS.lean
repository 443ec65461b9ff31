/- The library's sorts at this program, by the kit's contracts; the comparison of fractions. No conditions. -/
import Derived.Test.YtbdphjgpjhlpmaaSyN
import Derived.Test.YtbdphjgpjhlpmaaSyTy
import Derived.Test.YtbdphjgpjhlpmaaSxW
import Derived.Shelf.Small.Wraps
import Derived.Shelf.Sort.Plain
import Derived.Shelf.SlSortCmp.WholeK
set_option linter.unusedSimpArgs false
set_option linter.unusedVariables false
set_option maxRecDepth 100000
namespace Go.Proofs
open Go.Shelf
def Try.lays122_ren : Go.Shelf.Ren := ⟨fun | 122 => 58 | 215 => 66 | n => n, fun | 3 => 3 | 4 => 4 | n => n, fun | n => n⟩
theorem Try.lays122 : Go.Proofs.Lays.n122 Try.prog Try.lays122_ren := {
  mixed := by kernel_rfl
  f122 := Try.func58.trans (congrArg some (by kernel_rfl))
  f215 := Try.func66.trans (congrArg some (by kernel_rfl))
  t3 := Try.underlying3
  a3 := Try.isAgg3
  z3 := Try.sizeOf3
  v3 := Try.zeroValue3
  t4 := Try.underlying4
  a4 := Try.isAgg4
  z4 := Try.sizeOf4
  v4 := Try.zeroValue4 }
def Try.lays189_ren : Go.Shelf.Ren := ⟨fun | 189 => 16 | 125 => 28 | 257 => 27 | 128 => 49 | 129 => 50 | 294 => 40 | 295 => 41 | 296 => 42 | 297 => 43 | 298 => 44 | 299 => 45 | 216 => 46 | 300 => 47 | 301 => 48 | 328 => 61 | 329 => 62 | 330 => 63 | 331 => 64 | 332 => 65 | 215 => 66 | 343 => 76 | n => n, fun | 28 => 22 | 3 => 3 | 46 => 54 | 0 => 0 | 51 => 81 | 53 => 83 | 4 => 4 | 183 => 74 | 182 => 73 | 131 => 78 | 5 => 5 | 9 => 9 | 218 => 96 | 222 => 100 | 228 => 109 | 229 => 33 | n => n, fun | n => n⟩
theorem Try.lays189 : Go.Proofs.Lays.n189 Try.prog Try.lays189_ren := {
  mixed := by kernel_rfl
  f125 := Try.func28.trans (congrArg some (by kernel_rfl))
  f128 := Try.func49.trans (congrArg some (by kernel_rfl))
  f129 := Try.func50.trans (congrArg some (by kernel_rfl))
  f189 := Try.func16.trans (congrArg some (by kernel_rfl))
  f215 := Try.func66.trans (congrArg some (by kernel_rfl))
  f216 := Try.func46.trans (congrArg some (by kernel_rfl))
  f257 := Try.func27.trans (congrArg some (by kernel_rfl))
  f294 := Try.func40.trans (congrArg some (by kernel_rfl))
  f295 := Try.func41.trans (congrArg some (by kernel_rfl))
  f296 := Try.func42.trans (congrArg some (by kernel_rfl))
  f297 := Try.func43.trans (congrArg some (by kernel_rfl))
  f298 := Try.func44.trans (congrArg some (by kernel_rfl))
  f299 := Try.func45.trans (congrArg some (by kernel_rfl))
  f300 := Try.func47.trans (congrArg some (by kernel_rfl))
  f301 := Try.func48.trans (congrArg some (by kernel_rfl))
  f328 := Try.func61.trans (congrArg some (by kernel_rfl))
  f329 := Try.func62.trans (congrArg some (by kernel_rfl))
  f330 := Try.func63.trans (congrArg some (by kernel_rfl))
  f331 := Try.func64.trans (congrArg some (by kernel_rfl))
  f332 := Try.func65.trans (congrArg some (by kernel_rfl))
  f343 := Try.func76.trans (congrArg some (by kernel_rfl))
  t0 := Try.underlying0
  a0 := Try.isAgg0
  z0 := Try.sizeOf0
  v0 := Try.zeroValue0
  t3 := Try.underlying3
  a3 := Try.isAgg3
  z3 := Try.sizeOf3
  v3 := Try.zeroValue3
  t4 := Try.underlying4
  a4 := Try.isAgg4
  z4 := Try.sizeOf4
  v4 := Try.zeroValue4
  t5 := Try.underlying5
  a5 := Try.isAgg5
  z5 := Try.sizeOf5
  v5 := Try.zeroValue5
  t9 := Try.underlying9
  a9 := Try.isAgg9
  z9 := Try.sizeOf9
  v9 := Try.zeroValue9
  t28 := Try.underlying22
  a28 := Try.isAgg22
  z28 := Try.sizeOf22
  v28 := Try.zeroValue22
  t46 := Try.underlying54
  a46 := Try.isAgg54
  z46 := Try.sizeOf54
  v46 := Try.zeroValue54
  t51 := Try.underlying81
  a51 := Try.isAgg81
  z51 := Try.sizeOf81
  v51 := Try.zeroValue81
  t53 := Try.underlying83
  a53 := Try.isAgg83
  z53 := Try.sizeOf83
  v53 := Try.zeroValue83
  t131 := Try.underlying78
  a131 := Try.isAgg78
  z131 := Try.sizeOf78
  v131 := Try.zeroValue78
  t182 := Try.underlying73
  a182 := Try.isAgg73
  z182 := Try.sizeOf73
  v182 := Try.zeroValue73
  t183 := Try.underlying74
  a183 := Try.isAgg74
  z183 := Try.sizeOf74
  v183 := Try.zeroValue74
  t218 := Try.underlying96
  a218 := Try.isAgg96
  z218 := Try.sizeOf96
  v218 := Try.zeroValue96
  t222 := Try.underlying100
  a222 := Try.isAgg100
  z222 := Try.sizeOf100
  v222 := Try.zeroValue100
  t228 := Try.underlying109
  a228 := Try.isAgg109
  z228 := Try.sizeOf109
  v228 := Try.zeroValue109
  t229 := Try.underlying33
  a229 := Try.isAgg33
  z229 := Try.sizeOf33
  v229 := Try.zeroValue33 }
def Try.sortFr_ren : Go.Shelf.Ren := ⟨fun | 6 => 38 | 15 => 28 | 14 => 60 | 28 => 49 | 29 => 50 | 20 => 68 | 21 => 69 | 22 => 70 | 23 => 71 | 24 => 72 | 25 => 73 | 26 => 74 | 27 => 75 | 46 => 77 | 47 => 62 | 48 => 63 | 49 => 78 | 50 => 79 | 57 => 80 | n => n, fun | 22 => 50 | 24 => 35 | 25 => 70 | 3 => 3 | 39 => 54 | 0 => 0 | 53 => 81 | 55 => 83 | 4 => 4 | 46 => 74 | 45 => 73 | 50 => 78 | 5 => 5 | 9 => 9 | 66 => 96 | 70 => 100 | 76 => 109 | 77 => 33 | n => n, fun | n => n⟩
theorem Try.sortFr : Go.Proofs.SlLaysF0.n6 Try.prog Try.sortFr_ren := {
  mixed := by kernel_rfl
  f6 := ⟨Try.f38.name, by decide, Try.func38.trans (congrArg some (by kernel_rfl))⟩
  f14 := ⟨Try.f60.name, by decide, Try.func60.trans (congrArg some (by kernel_rfl))⟩
  f15 := Try.func28.trans (congrArg some (by kernel_rfl))
  f20 := ⟨Try.f68.name, by decide, Try.func68.trans (congrArg some (by kernel_rfl))⟩
  f21 := ⟨Try.f69.name, by decide, Try.func69.trans (congrArg some (by kernel_rfl))⟩
  f22 := ⟨Try.f70.name, by decide, Try.func70.trans (congrArg some (by kernel_rfl))⟩
  f23 := ⟨Try.f71.name, by decide, Try.func71.trans (congrArg some (by kernel_rfl))⟩
  f24 := ⟨Try.f72.name, by decide, Try.func72.trans (congrArg some (by kernel_rfl))⟩
  f25 := ⟨Try.f73.name, by decide, Try.func73.trans (congrArg some (by kernel_rfl))⟩
  f26 := ⟨Try.f74.name, by decide, Try.func74.trans (congrArg some (by kernel_rfl))⟩
  f27 := ⟨Try.f75.name, by decide, Try.func75.trans (congrArg some (by kernel_rfl))⟩
  f28 := Try.func49.trans (congrArg some (by kernel_rfl))
  f29 := Try.func50.trans (congrArg some (by kernel_rfl))
  f46 := ⟨Try.f77.name, by decide, Try.func77.trans (congrArg some (by kernel_rfl))⟩
  f47 := Try.func62.trans (congrArg some (by kernel_rfl))
  f48 := Try.func63.trans (congrArg some (by kernel_rfl))
  f49 := ⟨Try.f78.name, by decide, Try.func78.trans (congrArg some (by kernel_rfl))⟩
  f50 := ⟨Try.f79.name, by decide, Try.func79.trans (congrArg some (by kernel_rfl))⟩
  f57 := ⟨Try.f80.name, by decide, Try.func80.trans (congrArg some (by kernel_rfl))⟩
  t0 := Try.underlying0
  a0 := Try.isAgg0
  z0 := Try.sizeOf0
  v0 := Try.zeroValue0
  t3 := Try.underlying3
  a3 := Try.isAgg3
  z3 := Try.sizeOf3
  v3 := Try.zeroValue3
  t4 := Try.underlying4
  a4 := Try.isAgg4
  z4 := Try.sizeOf4
  v4 := Try.zeroValue4
  t5 := Try.underlying5
  a5 := Try.isAgg5
  z5 := Try.sizeOf5
  v5 := Try.zeroValue5
  t9 := Try.underlying9
  a9 := Try.isAgg9
  z9 := Try.sizeOf9
  v9 := Try.zeroValue9
  t22 := Try.underlying50
  a22 := Try.isAgg50
  z22 := Try.sizeOf50
  v22 := Try.zeroValue50
  t25 := Try.underlying70
  a25 := Try.isAgg70
  z25 := Try.sizeOf70
  v25 := Try.zeroValue70
  t39 := Try.underlying54
  a39 := Try.isAgg54
  z39 := Try.sizeOf54
  v39 := Try.zeroValue54
  t45 := Try.underlying73
  a45 := Try.isAgg73
  z45 := Try.sizeOf73
  v45 := Try.zeroValue73
  t46 := Try.underlying74
  a46 := Try.isAgg74
  z46 := Try.sizeOf74
  v46 := Try.zeroValue74
  t50 := Try.underlying78
  a50 := Try.isAgg78
  z50 := Try.sizeOf78
  v50 := Try.zeroValue78
  t53 := Try.underlying81
  a53 := Try.isAgg81
  z53 := Try.sizeOf81
  v53 := Try.zeroValue81
  t55 := Try.underlying83
  a55 := Try.isAgg83
  z55 := Try.sizeOf83
  v55 := Try.zeroValue83
  t66 := Try.underlying96
  a66 := Try.isAgg96
  z66 := Try.sizeOf96
  v66 := Try.zeroValue96
  t70 := Try.underlying100
  a70 := Try.isAgg100
  z70 := Try.sizeOf100
  v70 := Try.zeroValue100
  t76 := Try.underlying109
  a76 := Try.isAgg109
  z76 := Try.sizeOf109
  v76 := Try.zeroValue109
  t77 := Try.underlying33
  a77 := Try.isAgg33
  z77 := Try.sizeOf33
  v77 := Try.zeroValue33 }
end Go.Proofs
namespace Go.Sx
open Go.Proofs Go.Shelf Go.RowKit Go.Lib Go.Sort

set_option maxHeartbeats 1000000 in
theorem frCmp_walk (a b c d : Int) (W : World) : Calls Try.prog 39 #[.agg #[.int .i64 a, .int .i64 b], .agg #[.int .i64 c, .int .i64 d]] W fun e w' => e = .returned (.int .i64 (Lib.compareInt (IntKind.wrap .i64 (a * d)) (IntKind.wrap .i64 (c * b)))) ∧ ∃ q os', w' = grow (W.drewN q) os' := by
  have hcon := fun x y W' => Any.cmp_Compare_int Try.lays122 x y W'
  change ∀ x y W', Calls Try.prog 58 _ _ _ at hcon
  generalize Lib.compareInt = r at hcon ⊢
  go_enter Try.func39, Try.ntmps39
  go_wp2_with (go_at_call 58; refine (hcon _ _ _).mono ?_; rintro e w' ⟨rfl, rfl⟩)
  go_ret
  have hw : ∀ n, wrap64 n = IntKind.wrap .i64 n := fun n => by
    unfold wrap64 IntKind.wrap
    simp [IntKind.bits, IntKind.signed]
    split <;> omega
  rw [← hw, ← hw]
  exact ⟨by simp, 0, _, by rw [alloc_eq_grow, alloc_eq_grow, grow_grow]; rfl⟩
def frC (x y : Frc) : Int := Lib.compareInt (x.1.1 * y.1.2) (y.1.1 * x.1.2)
theorem frC_lt (x y : Frc) : ltOf frC x y = frLt x y := by
  unfold ltOf frC Lib.compareInt frLt
  by_cases h1 : x.1.1 * y.1.2 < y.1.1 * x.1.2
  · simp [h1]
  · by_cases h2 : y.1.1 * x.1.2 < x.1.1 * y.1.2 <;> simp [h1, h2]
theorem frC_SWO : SWO (ltOf frC) := by
  have : ltOf frC = frLt := funext fun x => funext fun y => frC_lt x y
  rw [this]; exact frSWO
theorem fr_mul (x y : Frc) : IntKind.wrap .i64 (x.1.1 * y.1.2) = x.1.1 * y.1.2 := by
  obtain ⟨h1, h2, _, _⟩ := x.2
  obtain ⟨_, _, h3, h4⟩ := y.2
  have k1 : x.1.1 * y.1.2 ≤ 2000000 * 1000000 := by
    have a1 : x.1.1 * y.1.2 ≤ 2000000 * y.1.2 := Int.mul_le_mul_of_nonneg_right h2 (by omega)
    omega
  have k2 : -2000000 * 1000000 ≤ x.1.1 * y.1.2 := by
    have a1 : -2000000 * y.1.2 ≤ x.1.1 * y.1.2 := Int.mul_le_mul_of_nonneg_right h1 (by omega)
    omega
  exact wrap_id (by omega) (by omega)
theorem frCmpLays (blk off size : Nat) (w : World) : CmpLays Try.prog 39 #[] (intE frL) 2 frC blk off size w := fun _ _ _ _ x y => by
  have := frCmp_walk x.1.1 x.1.2 y.1.1 y.1.2 (sortWorldK (intE frL) 2 w blk off ‹Nat› ‹Array Frc› ‹Array Obj›)
  rw [fr_mul x y, fr_mul y x] at this
  exact this
noncomputable def frSrt (d : Array Frc) : Array Frc := pdq (ltOf frC) d 0 d.size (Lib.bitLen d.size) true true
theorem frSrt_spec (d : Array Frc) : PermIn 0 d.size d (frSrt d) ∧ SortedIn (ltOf frC) 0 d.size (frSrt d) :=
  pdq_sorts (ltOf frC) frC_SWO d 0 d.size (Lib.bitLen d.size) true true (Nat.zero_le _) (Nat.le_refl _) (Or.inl rfl)
noncomputable abbrev frSortS : HSpec := sortS frL 2 35 frSrt [.fn 39 []]
theorem ok38 : FnOK Try.prog 38 (.heap frSortS) := sort_ok frL (exv := [.func (.func 39) #[] #[]]) (fun args w => run_call (fn := Try.f38) (by kernel_rfl) (by kernel_rfl) rfl args w) (fun _ => rfl) (by decide) frL_inj (fun d => (frSrt_spec d).1.1)
  (fun w A X u hl hu => by
    match u, hl with
    | [v], _ =>
      obtain ⟨us, e, hs, _⟩ := (hu 0 (.fn 39 []) rfl).fn_inv
      have : us = #[] := Array.eq_empty_of_size_eq_zero (by simpa using hs)
      subst this
      simp at e
      rw [e])
  (fun blk off cap d w hH hblk h1 h62 => AnyQ.slices_SortFunc_eq Try.sortFr 2 Try.isAgg35 Try.sizeOf35 (intE frL) (fun _ => rfl) (fun x v hv => by simp [intE, frL] at hv; rcases hv with rfl | rfl <;> rfl) frC frC_SWO 39 #[] blk off cap d w (enters_of Try.func39 (by kernel_rfl) rfl) (frCmpLays blk off d.size w) hH hblk h62)
/-- Ints. -/
def inL (n : Int) : List Int := [n]
noncomputable def inSrt (d : Array Int) : Array Int := (d.toList.mergeSort fun x y => decide (x ≤ y)).toArray
noncomputable abbrev inSortS : HSpec := sortS inL 1 3 inSrt []
theorem putRow_map (w : World) (blk off : Nat) (S : Array Int) : putRow (Value.int .i64) w blk off S = putRow id w blk off (S.map (Value.int .i64)) := by
  unfold putRow
  refine mapBlock_congr _ _ _ _ fun c e fr hc => ?_
  unfold putCells
  apply Array.ext (by simp)
  intro i h1 h2
  simp only [Array.getElem_mapIdx, Array.size_map, id]
  split
  · rename_i hin
    rw [getElem!_pos S (i - off) (by omega), getElem!_pos (S.map (Value.int .i64)) (i - off) (by simp; omega)]
    simp
  · rfl
theorem ok16 : FnOK Try.prog 16 (.heap inSortS) := sort_ok inL (exv := []) (fun args w => run_call (fn := Try.f16) (by kernel_rfl) (by kernel_rfl) rfl args w) (fun _ => rfl) (by decide) (fun x y h => by simpa [inL] using h) (fun d => by simp [inSrt])
  (fun w A X u hl hu => by
    match u, hl with
    | [], _ => rfl)
  (fun blk off cap d w hH hblk h1 h62 => by
    have hf : ∀ d : Array Int, flatK (intE inL) 1 d = d.map (Value.int .i64) := fun d => by
      apply Array.ext (by simp)
      intro i h1 h2
      simp [flatK, intE, inL, Nat.mod_one]
      rw [getElem!_pos d i (by simpa using h2)]
    have hH' : Holds (Value.int .i64) w blk off d.toList.toArray := fun j hj => by
      have := hH j (by rw [size_flatK]; simpa using hj)
      rw [hf] at this
      simpa [getElem!_pos d j (by simpa using hj), getElem!_pos (d.map (Value.int .i64)) j (by simpa using hj)] using this
    have := Any.slices_Sort_int Try.lays189 blk off cap d.toList w hH' hblk (by simpa using h62)
    change Calls Try.prog 16 _ _ _ at this
    rw [Array.length_toList] at this
    refine this.mono ?_
    rintro e w' ⟨rfl, n, os, rfl⟩
    refine ⟨rfl, n, os, ?_⟩
    congr 1
    show putRow (Value.int .i64) _ blk off (inSrt d) = putRow id _ blk off (flatK (intE inL) 1 (inSrt d))
    rw [hf]
    exact putRow_map _ _ _ _)
end Go.Sx
