/- A part of a proof; no conditions. -/
import Derived.Test.YtjpmoggimhmidaaGreatP39
import Derived.Test.YtjpmoggimhmidaaGreatP43
import Derived.Shelf.SlSortCmp.WholeK
import Derived.Test.YtjpmoggimhmidaaGreatP20
set_option linter.unusedSimpArgs false
set_option linter.unusedVariables false
set_option linter.unusedSectionVars false
section
/- Crew: the library's sort at duties, by the kit's contract. No conditions. -/
set_option linter.unusedSimpArgs false
set_option linter.unusedSectionVars false
set_option maxRecDepth 100000
namespace Go.Proofs
open Go.Shelf
def Tryz.sortDu_ren : Go.Shelf.Ren := ⟨fun | 6 => 111 | 15 => 128 | 14 => 127 | 28 => 151 | 29 => 152 | 20 => 143 | 21 => 144 | 22 => 145 | 23 => 146 | 24 => 147 | 25 => 148 | 26 => 149 | 27 => 150 | 46 => 156 | 47 => 157 | 48 => 158 | 49 => 159 | 50 => 160 | 57 => 162 | n => n, fun | 22 => 58 | 24 => 79 | 25 => 161 | 3 => 3 | 39 => 173 | 0 => 0 | 53 => 191 | 55 => 193 | 4 => 4 | 46 => 184 | 45 => 183 | 50 => 188 | 5 => 5 | 9 => 9 | 66 => 194 | 70 => 198 | 76 => 201 | 77 => 176 | n => n, fun | n => n⟩
theorem Tryz.sortDu : Go.Proofs.SlLaysF0.n6 Tryz.prog Tryz.sortDu_ren := {
  mixed := by kernel_rfl
  f6 := ⟨Tryz.f111.name, by decide, Tryz.func111.trans (congrArg some (by kernel_rfl))⟩
  f14 := ⟨Tryz.f127.name, by decide, Tryz.func127.trans (congrArg some (by kernel_rfl))⟩
  f15 := Tryz.func128.trans (congrArg some (by kernel_rfl))
  f20 := ⟨Tryz.f143.name, by decide, Tryz.func143.trans (congrArg some (by kernel_rfl))⟩
  f21 := ⟨Tryz.f144.name, by decide, Tryz.func144.trans (congrArg some (by kernel_rfl))⟩
  f22 := ⟨Tryz.f145.name, by decide, Tryz.func145.trans (congrArg some (by kernel_rfl))⟩
  f23 := ⟨Tryz.f146.name, by decide, Tryz.func146.trans (congrArg some (by kernel_rfl))⟩
  f24 := ⟨Tryz.f147.name, by decide, Tryz.func147.trans (congrArg some (by kernel_rfl))⟩
  f25 := ⟨Tryz.f148.name, by decide, Tryz.func148.trans (congrArg some (by kernel_rfl))⟩
  f26 := ⟨Tryz.f149.name, by decide, Tryz.func149.trans (congrArg some (by kernel_rfl))⟩
  f27 := ⟨Tryz.f150.name, by decide, Tryz.func150.trans (congrArg some (by kernel_rfl))⟩
  f28 := Tryz.func151.trans (congrArg some (by kernel_rfl))
  f29 := Tryz.func152.trans (congrArg some (by kernel_rfl))
  f46 := ⟨Tryz.f156.name, by decide, Tryz.func156.trans (congrArg some (by kernel_rfl))⟩
  f47 := Tryz.func157.trans (congrArg some (by kernel_rfl))
  f48 := Tryz.func158.trans (congrArg some (by kernel_rfl))
  f49 := ⟨Tryz.f159.name, by decide, Tryz.func159.trans (congrArg some (by kernel_rfl))⟩
  f50 := ⟨Tryz.f160.name, by decide, Tryz.func160.trans (congrArg some (by kernel_rfl))⟩
  f57 := ⟨Tryz.f162.name, by decide, Tryz.func162.trans (congrArg some (by kernel_rfl))⟩
  t0 := Tryz.underlying0
  a0 := Tryz.isAgg0
  z0 := Tryz.sizeOf0
  v0 := Tryz.zeroValue0
  t3 := Tryz.underlying3
  a3 := Tryz.isAgg3
  z3 := Tryz.sizeOf3
  v3 := Tryz.zeroValue3
  t4 := Tryz.underlying4
  a4 := Tryz.isAgg4
  z4 := Tryz.sizeOf4
  v4 := Tryz.zeroValue4
  t5 := Tryz.underlying5
  a5 := Tryz.isAgg5
  z5 := Tryz.sizeOf5
  v5 := Tryz.zeroValue5
  t9 := Tryz.underlying9
  a9 := Tryz.isAgg9
  z9 := Tryz.sizeOf9
  v9 := Tryz.zeroValue9
  t22 := Tryz.underlying58
  a22 := Tryz.isAgg58
  z22 := Tryz.sizeOf58
  v22 := Tryz.zeroValue58
  t25 := Tryz.underlying161
  a25 := Tryz.isAgg161
  z25 := Tryz.sizeOf161
  v25 := Tryz.zeroValue161
  t39 := Tryz.underlying173
  a39 := Tryz.isAgg173
  z39 := Tryz.sizeOf173
  v39 := Tryz.zeroValue173
  t45 := Tryz.underlying183
  a45 := Tryz.isAgg183
  z45 := Tryz.sizeOf183
  v45 := Tryz.zeroValue183
  t46 := Tryz.underlying184
  a46 := Tryz.isAgg184
  z46 := Tryz.sizeOf184
  v46 := Tryz.zeroValue184
  t50 := Tryz.underlying188
  a50 := Tryz.isAgg188
  z50 := Tryz.sizeOf188
  v50 := Tryz.zeroValue188
  t53 := Tryz.underlying191
  a53 := Tryz.isAgg191
  z53 := Tryz.sizeOf191
  v53 := Tryz.zeroValue191
  t55 := Tryz.underlying193
  a55 := Tryz.isAgg193
  z55 := Tryz.sizeOf193
  v55 := Tryz.zeroValue193
  t66 := Tryz.underlying194
  a66 := Tryz.isAgg194
  z66 := Tryz.sizeOf194
  v66 := Tryz.zeroValue194
  t70 := Tryz.underlying198
  a70 := Tryz.isAgg198
  z70 := Tryz.sizeOf198
  v70 := Tryz.zeroValue198
  t76 := Tryz.underlying201
  a76 := Tryz.isAgg201
  z76 := Tryz.sizeOf201
  v76 := Tryz.zeroValue201
  t77 := Tryz.underlying176
  a77 := Tryz.isAgg176
  z77 := Tryz.sizeOf176
  v77 := Tryz.zeroValue176 }
end Go.Proofs
namespace Go.Sx
open Go.Proofs Go.Shelf Go.RowKit Go.Lib Go.Sort

abbrev Dus : Type := { d : Du // 0 ≤ d.a ∧ d.a ≤ 9223372036854775807 }
instance : Inhabited Dus := ⟨⟨⟨0, 0, 1⟩, by decide⟩⟩
def duL (x : Dus) : List Int := [x.1.p, x.1.a, x.1.b]
theorem duL_inj (x y : Dus) (h : duL x = duL y) : x = y := by
  obtain ⟨⟨a, b, c⟩, hx⟩ := x; obtain ⟨⟨a', b', c'⟩, hy⟩ := y
  simp only [duL, List.cons.injEq, and_true] at h
  obtain ⟨rfl, rfl, rfl⟩ := h
  rfl
theorem duL_row (x : Dus) : intR duL x = x.1.row := rfl
set_option maxHeartbeats 1000000 in
theorem duCmp_walk (a b c d e f : Int) (W : World) : Calls Tryz.prog 112 #[.agg #[.int .i64 a, .int .i64 b, .int .i64 c], .agg #[.int .i64 d, .int .i64 e, .int .i64 f]] W fun ex w' => ex = .returned (.int .i64 (IntKind.wrap .i64 (b - e))) ∧ ∃ q os', w' = grow (W.drewN q) os' := by
  go_enter Tryz.func112, Tryz.ntmps112
  go_wp2
  go_ret
  have hw : ∀ n, wrap64 n = IntKind.wrap .i64 n := fun n => by
    unfold wrap64 IntKind.wrap
    simp [IntKind.bits, IntKind.signed]
    split <;> omega
  rw [← hw]
  exact ⟨by simp, 0, _, by rw [alloc_eq_grow, alloc_eq_grow, grow_grow]; rfl⟩
def duC (x y : Dus) : Int := x.1.a - y.1.a
theorem duC_lt (x y : Dus) : ltOf duC x y = decide (x.1.a < y.1.a) := by
  unfold ltOf duC
  by_cases h : x.1.a < y.1.a
  · simp [h]; omega
  · simp [h]; omega
theorem duC_SWO : SWO (ltOf duC) where
  irrefl x := by rw [duC_lt]; simp
  trans x y z h1 h2 := by rw [duC_lt] at *; simp at *; omega
  ntrans x y z h1 h2 := by rw [duC_lt] at *; simp at *; omega
theorem duCmpLays (blk off size : Nat) (w : World) : CmpLays Tryz.prog 112 #[] (intE duL) 3 duC blk off size w := fun _ _ _ _ x y => by
  have := duCmp_walk x.1.p x.1.a x.1.b y.1.p y.1.a y.1.b (sortWorldK (intE duL) 3 w blk off ‹Nat› ‹Array Dus› ‹Array Obj›)
  rw [show IntKind.wrap .i64 (x.1.a - y.1.a) = x.1.a - y.1.a by have := x.2; have := y.2; exact wrap_id (by omega) (by omega)] at this
  exact this
noncomputable def duSrt (d : Array Dus) : Array Dus := pdq (ltOf duC) d 0 d.size (Lib.bitLen d.size) true true
theorem duSrt_spec (d : Array Dus) : PermIn 0 d.size d (duSrt d) ∧ SortedIn (ltOf duC) 0 d.size (duSrt d) :=
  pdq_sorts (ltOf duC) duC_SWO d 0 d.size (Lib.bitLen d.size) true true (Nat.zero_le _) (Nat.le_refl _) (Or.inl rfl)
noncomputable abbrev duSortS : HSpec := sortS duL 3 79 duSrt [.fn 112 []]
theorem ok111 : FnOK Tryz.prog 111 (.heap duSortS) := sort_ok duL (exv := [.func (.func 112) #[] #[]]) (fun args w => run_call (fn := Tryz.f111) (by kernel_rfl) (by kernel_rfl) rfl args w) (fun _ => rfl) (by decide) duL_inj (fun d => (duSrt_spec d).1.1)
  (fun w A X u hl hu => by
    match u, hl with
    | [v], _ =>
      obtain ⟨us, e, hs, _⟩ := (hu 0 (.fn 112 []) rfl).fn_inv
      have : us = #[] := Array.eq_empty_of_size_eq_zero (by simpa using hs)
      subst this
      simp at e
      rw [e])
  (fun blk off cap d w hH hblk h1 h62 => AnyQ.slices_SortFunc_eq Tryz.sortDu 3 Tryz.isAgg79 Tryz.sizeOf79 (intE duL) (fun _ => rfl) (fun x v hv => by simp [intE, duL] at hv; rcases hv with rfl | rfl | rfl <;> rfl) duC duC_SWO 112 #[] blk off cap d w (enters_of Tryz.func112 (by kernel_rfl) rfl) (duCmpLays blk off d.size w) hH hblk h62)

/-! as a sort of duties -/
noncomputable def toDus (l : List Du) : List Dus := l.filterMap fun d => if h : 0 ≤ d.a ∧ d.a ≤ 9223372036854775807 then some ⟨d, h⟩ else none
theorem toDus_val : ∀ {l : List Du}, (∀ d ∈ l, 0 ≤ d.a ∧ d.a ≤ 9223372036854775807) → (toDus l).map (·.1) = l
  | [], _ => rfl
  | d :: l, h => by
    have hd := h d (by simp)
    have ih := toDus_val (l := l) fun x hx => h x (by simp [hx])
    unfold toDus at ih ⊢
    rw [List.filterMap_cons, dif_pos hd]
    simp only [List.map_cons, ih]
noncomputable def srtD (l : List Du) : List Du := (duSrt (toDus l).toArray).toList.map (·.1)
theorem duSrt_perm (d : List Dus) : (duSrt d.toArray).toList.Perm d := by
  have h := (duSrt_spec d.toArray).1
  have e1 : ((duSrt d.toArray).extract 0 d.toArray.size).toList = (duSrt d.toArray).toList := by
    rw [← h.1, Array.extract_size]
  have e2 : (d.toArray.extract 0 d.toArray.size).toList = d := by rw [Array.extract_size]
  have := h.2.2
  rw [e1, e2] at this
  exact this
theorem srtD_ok : SrtOk srtD where
  perm l h := by
    have := (duSrt_perm (toDus l)).map (·.1)
    rw [toDus_val h] at this
    exact this
  sort l h := by
    have hs := (duSrt_spec (toDus l).toArray).2
    have hl : (duSrt (toDus l).toArray).size = (toDus l).toArray.size := (duSrt_spec (toDus l).toArray).1.1
    unfold srtD
    rw [List.pairwise_map, List.pairwise_iff_getElem]
    intro i j hi hj hij
    have hi' : i < (duSrt (toDus l).toArray).size := by simpa using hi
    have hj' : j < (duSrt (toDus l).toArray).size := by simpa using hj
    have := hs i j (Nat.zero_le _) hij (by omega)
    rw [duC_lt, getElem!_pos _ i hi', getElem!_pos _ j hj'] at this
    simp only [decide_eq_false_iff_not, Int.not_lt] at this
    simpa using this
theorem srtD_len {l : List Du} (h : ∀ d ∈ l, 0 ≤ d.a ∧ d.a ≤ 9223372036854775807) : (srtD l).length = l.length := (srtD_ok.perm l h).length_eq
/-- What the sort does. -/
theorem duSort_go {h : Hp} {s i n : Nat} {l : List Du} {cl : Bool} (hl : ∀ d ∈ l, 0 ≤ d.a ∧ d.a ≤ 9223372036854775807) (hB : hget h s i = some { z := 3, els := l.map Du.row, ty := 79, cl := cl }) (hn : n = l.length) (h1 : 1 ≤ n) (h2 : n < 4611686018427387904) :
    duSortS.go [.bsl s i n, .fn 112 []] h = ⟨True, .tup [], hset h s i { z := 3, els := (srtD l).map Du.row, ty := 79, cl := cl }⟩ := by
  have hd : l.map Du.row = (toDus l).map (intR duL) := by
    conv => lhs; rw [← toDus_val hl]
    rw [List.map_map]; rfl
  have hun : (l.map Du.row).map (unR duL) = toDus l := by
    rw [hd, List.map_map]
    have : (unR duL ∘ intR duL) = id := funext fun x => unR_R duL_inj x
    rw [this, List.map_id]
  have he : (duSrt (toDus l).toArray).toList.map (intR duL) = (srtD l).map Du.row := by
    rw [srtD, List.map_map]; rfl
  simp only [duSortS, sortS, hB, hun, he]
  congr 1
  exact eq_true ⟨trivial, trivial, trivial, trivial, by rw [List.length_map]; exact hn, h1, h2, toDus l, hd⟩
end Go.Sx
end
section
/- Contracts of functions that work on an object in the heap: its sites hold a state, all others are left to the caller. No conditions. -/
set_option linter.unusedSimpArgs false
namespace Go.Sx
variable [Gls]
section
variable {σ : Type} {LC : σ → List (Nat × Site)} {keys : List Nat}
/-- A heap whose object is in state s. -/
def Ob (LC : σ → List (Nat × Site)) (s : σ) (h : Hp) : Hp := hps (LC s) h
omit [Gls] in
theorem ob_ne (hk : ∀ s, (LC s).map (·.1) = keys) {s : σ} {h : Hp} {k : Nat} (hn : keys.contains k = false) : Ob LC s h k = h k :=
  hps_not (by rw [hk]; simpa [List.contains_eq_mem] using hn)
omit [Gls] in
theorem ob_ob (hk : ∀ s, (LC s).map (·.1) = keys) (s s' : σ) (h : Hp) : Ob LC s (Ob LC s' h) = Ob LC s h := by
  funext k
  by_cases hn : k ∈ keys
  · exact hps_mem (by rw [hk]; exact hn)
  · have hn' : keys.contains k = false := by simpa [List.contains_eq_mem] using hn
    rw [ob_ne hk hn', ob_ne hk hn', ob_ne hk hn']
omit [Gls] in
theorem ob_over (hk : ∀ s, (LC s).map (·.1) = keys) {s : σ} {h : Hp} {L : List (Nat × Site)} (hn : (L.all fun p => !keys.contains p.1) = true) : hps L (Ob LC s h) = Ob LC s (hps L h) := by
  funext k
  by_cases hm : k ∈ L.map (·.1)
  · have hnk : keys.contains k = false := by
      obtain ⟨p, hp, rfl⟩ := List.mem_map.1 hm
      simpa using List.all_eq_true.1 hn p hp
    rw [ob_ne hk hnk]; exact hps_mem hm
  · rw [hps_not hm]
    by_cases hnk : k ∈ keys
    · exact hps_mem (by rw [hk]; exact hnk)
    · have hn' : keys.contains k = false := by simpa [List.contains_eq_mem] using hnk
      rw [ob_ne hk hn', ob_ne hk hn', hps_not hm]
omit [Gls] in
theorem ob_hget (s : σ) (h : Hp) (k i : Nat) : hget (Ob LC s h) k i = if i < (Ob LC s h k).base then none else (Ob LC s h k).blks[i - (Ob LC s h k).base]? := rfl
omit [Gls] in
theorem ob_hnext (s : σ) (h : Hp) (k : Nat) : hnext (Ob LC s h) k = (Ob LC s h k).base + (Ob LC s h k).blks.length := rfl
omit [Gls] in
theorem ob_hpush (hk : ∀ s, (LC s).map (·.1) = keys) {s : σ} {h : Hp} {k : Nat} (hn : keys.contains k = false) (B : Blk) : hpush (Ob LC s h) k B = Ob LC s (hpush h k B) := by
  funext j
  by_cases hj : j ∈ keys
  · have hne : j ≠ k := by rintro rfl; simp [List.contains_eq_mem, hj] at hn
    simp only [hpush, hne, if_false]
    exact hps_mem (by rw [hk]; exact hj)
  · have hj' : keys.contains j = false := by simpa [List.contains_eq_mem] using hj
    rw [ob_ne hk hj']
    simp only [hpush, ob_ne hk hn, ob_ne hk hj']
omit [Gls] in
theorem ob_hset (hk : ∀ s, (LC s).map (·.1) = keys) {s : σ} {h : Hp} {k i : Nat} (hn : keys.contains k = false) (B : Blk) : hset (Ob LC s h) k i B = Ob LC s (hset h k i B) := by
  funext j
  by_cases hj : j ∈ keys
  · have hne : j ≠ k := by rintro rfl; simp [List.contains_eq_mem, hj] at hn
    simp only [hset, hne, if_false]
    exact hps_mem (by rw [hk]; exact hj)
  · have hj' : keys.contains j = false := by simpa [List.contains_eq_mem] using hj
    rw [ob_ne hk hj']
    simp only [hset, ob_ne hk hn, ob_ne hk hj']
omit [Gls] in
theorem ob_hcut (hk : ∀ s, (LC s).map (·.1) = keys) {s : σ} {h : Hp} {k i : Nat} (hn : keys.contains k = false) : hcut (Ob LC s h) k i = Ob LC s (hcut h k i) := by
  funext j
  by_cases hj : j ∈ keys
  · have hne : j ≠ k := by rintro rfl; simp [List.contains_eq_mem, hj] at hn
    simp only [hcut, hne, if_false]
    exact hps_mem (by rw [hk]; exact hj)
  · have hj' : keys.contains j = false := by simpa [List.contains_eq_mem] using hj
    rw [ob_ne hk hj']
    simp only [hcut, ob_ne hk hn, ob_ne hk hj']
/-- A block of the object is written. -/
theorem ob_write {s s' : σ} {h : Hp} {k i : Nat} {B : Blk} (hk : ∀ s, (LC s).map (·.1) = keys) (hm : keys.contains k = true) (ho : ∀ j ∈ keys, j ≠ k → Ob LC s' h j = Ob LC s h j)
    (hw : Ob LC s' h k = { Ob LC s h k with blks := (Ob LC s h k).blks.set (i - (Ob LC s h k).base) B }) : hset (Ob LC s h) k i B = Ob LC s' h := by
  funext j
  by_cases hj : j = k
  · subst hj; simp only [hset, if_true]; exact hw.symm
  · simp only [hset, hj, if_false]
    by_cases hjk : j ∈ keys
    · exact (ho j hjk hj).symm
    · have hj' : keys.contains j = false := by simpa [List.contains_eq_mem] using hjk
      rw [ob_ne hk hj', ob_ne hk hj']
omit [Gls] in
theorem ob_mt {s : σ} {h : Hp} (hk : ∀ s, (LC s).map (·.1) = keys) : Mt LC keys s h ↔ h = Ob LC s h := by
  constructor
  · intro hm
    exact (hps_self fun k hkk => hm k (by rw [← hk s]; exact hkk)).symm
  · intro he k hkk
    have : h k = Ob LC s h k := congrFun he k
    rw [this]
    exact hps_mem (by rw [hk]; exact hkk)
omit [Gls] in
theorem ob_mt' {s : σ} {h : Hp} (hk : ∀ s, (LC s).map (·.1) = keys) : Mt LC keys s (Ob LC s h) := (ob_mt hk).2 (ob_ob hk s s h).symm
/-- Nothing less is told of the other sites. -/
theorem ob_hle {s : σ} {L L' : List (Nat × Site)} {H : Hp} (h : allK (fun k => sLe (hps L H k) (hps L' H k)) (L.map (·.1) ++ L'.map (·.1))) (hy : (L.map (·.1) ++ L'.map (·.1)).contains 999999999 = false := by first | rfl | simp) : HLe (Ob LC s (hps L H)) (Ob LC s (hps L' H)) := by
  have hb := hle_hpsb (H := H) h hy
  have hns : YS ∉ L.map (·.1) ++ L'.map (·.1) := by
    intro hm
    have : (L.map (·.1) ++ L'.map (·.1)).contains 999999999 = true := by simpa [List.contains_eq_mem] using hm
    rw [hy] at this; cases this
  refine .sites (fun k => ?_) ?_
  · by_cases hm : k ∈ (LC s).map (·.1)
    · have : Ob LC s (hps L' H) k = Ob LC s (hps L H) k := hps_mem hm
      rw [this]; exact .same rfl rfl
    · have e1 : Ob LC s (hps L' H) k = hps L' H k := hps_not hm
      have e2 : Ob LC s (hps L H) k = hps L H k := hps_not hm
      rw [e1, e2]
      by_cases hs : k ∈ L.map (·.1) ++ L'.map (·.1)
      · exact allK_mem h k hs
      · rw [List.mem_append, not_or] at hs
        rw [hps_not hs.1, hps_not hs.2]
        exact .same rfl rfl
  · by_cases hm : YS ∈ (LC s).map (·.1)
    · exact hps_mem hm
    · have e1 : Ob LC s (hps L' H) YS = hps L' H YS := hps_not hm
      have e2 : Ob LC s (hps L H) YS = hps L H YS := hps_not hm
      rw [e1, e2]
      exact hb.2
section
variable {D : Type}
open Classical in
/-- A contract of a function that works on the object. -/
noncomputable def obS (LC : σ → List (Nat × Site)) (keys : List Nat) (enc : σ → D → List V) (pre : σ → D → Hp → Prop) (res : σ → D → Hp → V) (nxt : σ → D → σ) (fin : σ → D → Hp → Hp) : HSpec where
  go args h := if x : ∃ p : σ × D, Mt LC keys p.1 h ∧ args = enc p.1 p.2 then ⟨pre x.choose.1 x.choose.2 h, res x.choose.1 x.choose.2 h, Ob LC (nxt x.choose.1 x.choose.2) (fin x.choose.1 x.choose.2 h)⟩ else bad h
variable {enc : σ → D → List V} {pre : σ → D → Hp → Prop} {res : σ → D → Hp → V} {nxt : σ → D → σ} {fin : σ → D → Hp → Hp}
omit [Gls] in
theorem obS_go (hk : ∀ s, (LC s).map (·.1) = keys) (inj : ∀ s s', (∀ k ∈ keys, hps (LC s) noH k = hps (LC s') noH k) → s = s') (ein : ∀ s d d', enc s d = enc s d' → d = d') (s : σ) (d : D) (h : Hp) :
    (obS LC keys enc pre res nxt fin).go (enc s d) (Ob LC s h) = ⟨pre s d (Ob LC s h), res s d (Ob LC s h), Ob LC (nxt s d) (fin s d (Ob LC s h))⟩ := by
  have x : ∃ p : σ × D, Mt LC keys p.1 (Ob LC s h) ∧ enc s d = enc p.1 p.2 := ⟨(s, d), ob_mt' hk, rfl⟩
  have e1 : x.choose.1 = s := inj _ _ fun k hkk => ((x.choose_spec.1 k hkk).symm.trans (ob_mt' (h := h) hk k hkk))
  have e2 : x.choose.2 = d := ein s _ _ (by have := x.choose_spec.2; rw [e1] at this; exact this.symm)
  simp only [obS, dif_pos x, e1, e2]
omit [Gls] in
theorem obS_inv (hk : ∀ s, (LC s).map (·.1) = keys) {args : List V} {h : Hp} (hc : ((obS LC keys enc pre res nxt fin).go args h).c) :
    ∃ s d, h = Ob LC s h ∧ args = enc s d ∧ pre s d h ∧ (obS LC keys enc pre res nxt fin).go args h = ⟨pre s d h, res s d h, Ob LC (nxt s d) (fin s d h)⟩ := by
  by_cases x : ∃ p : σ × D, Mt LC keys p.1 h ∧ args = enc p.1 p.2
  · simp only [obS, dif_pos x] at hc ⊢
    exact ⟨x.choose.1, x.choose.2, (ob_mt hk).1 x.choose_spec.1, x.choose_spec.2, hc, rfl⟩
  · simp only [obS, dif_neg x] at hc
    exact hc.elim
end
end
/-- These sites hold nothing. -/
def Blank (own : List Nat) (h : Hp) : Prop := ∀ k ∈ own, h k = { base := (h k).base, blks := [] }
/-- What was made at these sites is forgotten. -/
def bmp (own : List Nat) (n : Nat) (h : Hp) : Hp := hps (own.map fun k => (k, { base := (h k).base + n, blks := [] })) h
omit [Gls] in
theorem Blank.self {own : List Nat} {h : Hp} (hb : Blank own h) : h = hps (own.map fun k => (k, { base := (h k).base, blks := [] })) h := by
  refine (hps_self fun k hk => ?_).symm
  have hk' : k ∈ own := by simpa [List.map_map, Function.comp_def] using hk
  rw [hb k hk']
  clear hk
  induction own with
  | nil => cases hk'
  | cons a r ih =>
    simp only [List.map_cons, hps]
    by_cases e : k = a
    · subst e; rw [if_pos rfl]
    · rw [if_neg e]
      rcases List.mem_cons.1 hk' with h | h
      · exact absurd h e
      · exact ih (fun j hj => hb j (by simp [hj])) h
end Go.Sx
end
