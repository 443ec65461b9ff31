/- A part of a proof; no conditions. -/
import Derived.Test.YtnpdjaikmdagmaaGreatDoorP10
import Derived.Shelf.GgSortFunc.RowK
import Derived.Sort.Grow
import Derived.Shelf.Sort.Plain
import Derived.Shelf.Slices.In.SortNone
import Derived.Test.YtnpdjaikmdagmaaGreatDoorP12
import Derived.Test.YtnpdjaikmdagmaaGreatDoorP19
import Derived.Test.YtnpdjaikmdagmaaGreatDoorP18
import Derived.Test.YtnpdjaikmdagmaaGreatDoorP17
set_option linter.unusedSimpArgs false
set_option linter.unusedVariables false
set_option linter.unusedSectionVars false
section
/- A sort of the library, as a contract on the heap. No conditions. -/
set_option linter.unusedSimpArgs false
namespace Go.Sx
open Go.RowKit Go.Proofs Go.Sort
variable [Gls]

section
variable {α : Type} [Inhabited α] (l : α → List Int)

/-- An element's cells: ints. -/
def intR (x : α) : List V := (l x).map (V.int .i64)
def intE (x : α) : List Value := (l x).map (Value.int .i64)

open Classical in
noncomputable def unR (row : List V) : α := if h : ∃ x, intR l x = row then h.choose else default
omit [Gls] in
variable {l} in
theorem unR_R (hinj : ∀ x y, l x = l y → x = y) (x : α) : unR l (intR l x) = x := by
  unfold unR
  have h : ∃ y, intR l y = intR l x := ⟨x, rfl⟩
  rw [dif_pos h]
  have hc := h.choose_spec
  refine hinj _ _ ?_
  unfold intR at hc
  have hm : ∀ a b : List Int, a.map (V.int .i64) = b.map (V.int .i64) → a = b := by
    intro a
    induction a with
    | nil => intro b h; cases b with
      | nil => rfl
      | cons => simp at h
    | cons x a ih => intro b h; cases b with
      | nil => simp at h
      | cons y b => simp only [List.map_cons, List.cons.injEq, V.int.injEq, true_and] at h; rw [h.1, ih b h.2]
  exact hm _ _ hc

/-- The sort's contract: it gets an owned slice, whole; its rows are sorted then by 'srt'. -/
noncomputable def sortS (k : Nat) (ty : TypeId) (srt : Array α → Array α) (ex : List V) : HSpec where
  go args h := match args with
    | .bsl s i n :: r => match hget h s i with
      | some B => ⟨r = ex ∧ B.fz = false ∧ B.z = k ∧ B.ty = ty ∧ n = B.els.length ∧ 1 ≤ n ∧ n < 4611686018427387904 ∧ ∃ d : List α, B.els = d.map (intR l), .tup [], hset h s i { B with els := (srt (B.els.map (unR l)).toArray).toList.map (intR l) }⟩
      | none => ⟨False, .top, h⟩
    | _ => ⟨False, .top, h⟩

omit [Gls] in
theorem intR_get {α : Type} (l : α → List Int) {x : α} {j : Nat} {c : V} (h : (intR l x)[j]? = some c) : ∃ n, c = .int .i64 n ∧ (intE l x)[j]! = .int .i64 n ∧ j < (l x).length := by
  unfold intR at h
  rw [List.getElem?_map] at h
  cases hj : (l x)[j]? with
  | none => simp [hj] at h
  | some n =>
    rw [hj] at h
    simp only [Option.map_some, Option.some.injEq] at h
    refine ⟨n, h.symm, ?_, (List.getElem?_eq_some_iff.1 hj).1⟩
    unfold intE
    rw [List.getElem!_eq_getElem?_getD, List.getElem?_map, hj]; rfl

theorem sort_ok {P : Program} {f : FuncId} {k : Nat} {ty : TypeId} {srt : Array α → Array α} {ex : List V} {exv : List Value}
    (hcall : ∀ (args : Array Value) (w : World), (callFunc f args).run P w = .ok (.enter f args) w) (hk : ∀ x, (l x).length = k) (hk0 : 0 < k) (hinj : ∀ x y, l x = l y → x = y) (hsize : ∀ d, (srt d).size = d.size)
    (hexv : ∀ (w : World) (A : Nat → Prop) (X : Refs) (u : List Value), u.length = ex.length → (∀ i c, ex[i]? = some c → RV w A X c (u.getD i und)) → u = exv)
    (hsort : ∀ (blk off cap : Nat) (d : Array α) (w : World), HoldsK (intE l) k w blk off d → blk < w.heap.size → 1 ≤ d.size → d.size < 4611686018427387904 →
      Calls P f (Value.slice (some ⟨blk, off, none⟩) d.size cap :: exv).toArray w fun e w' => e = .returned (.tuple #[]) ∧ ∃ n os, w' = Go.Sort.grow (putRowK (intE l) k (Sort.ahead w n) blk off (srt d)) os) :
    FnOK P f (.heap (sortS l k ty srt ex)) := by
  refine { call := hcall, iter := fun S' h => (by cases h), pure := fun S' hS => (by cases hS), heap := fun S' hS => ?_ }
  cases hS
  intro args h hc w A X vals hI hsz hargs
  match args, hc with
  | [], hc => exact hc.elim
  | x :: r, hc =>
  cases x with
  | bsl s i n =>
    cases hB : hget h s i with
    | none => simp [sortS, hB] at hc
    | some B =>
      have hgo : (sortS l k ty srt ex).go (.bsl s i n :: r) h = ⟨r = ex ∧ B.fz = false ∧ B.z = k ∧ B.ty = ty ∧ n = B.els.length ∧ 1 ≤ n ∧ n < 4611686018427387904 ∧ ∃ d : List α, B.els = d.map (intR l), .tup [], hset h s i { B with els := (srt (B.els.map (unR l)).toArray).toList.map (intR l) }⟩ := by simp only [sortS, hB]
      rw [hgo] at hc ⊢
      obtain ⟨hr, hfz, hz, hty, hn, h1, h62, d, hd⟩ := hc
      subst hr
      have hun : B.els.map (unR l) = d := by
        rw [hd, List.map_map]
        have : (unR l ∘ intR l) = id := funext fun x => unR_R hinj x
        rw [this, List.map_id]
      simp only [hun]
      have hdl : d.length = n := by rw [hn, hd, List.length_map]
      obtain ⟨a, c, e0, hN, hnl, hv⟩ := (hargs 0 (.bsl s i n) rfl).bsl_inv
      have hb := hI.blk s i B hB
      have hv' := hv (by rw [hb.hlen, hn])
      rcases hb.mem with ⟨_, hnil⟩ | ⟨arr, cap, g1, g2, g3, g4, g5, g6, g7, g8⟩
      · rw [hnil] at hn; simp at hn; omega
      have hvals : vals = (Value.slice (some ⟨(X.D s i).b, (X.D s i).o, none⟩) d.toArray.size cap :: exv).toArray := by
        have hx := hexv w A X (vals.toList.drop 1) (by simp at hsz ⊢; omega) (fun j c hj => by
          have := hargs (j + 1) c (by simpa using hj)
          rw [List.getD_eq_getElem?_getD, List.getElem?_drop, Array.getElem?_toList, Nat.add_comm 1 j]
          rwa [Array.getD_eq_getD_getElem?] at this)
        have h0 : vals.getD 0 und = Value.slice (some ⟨(X.D s i).b, (X.D s i).o, none⟩) d.toArray.size cap := by
          rw [e0, hv', g2]; simp only [List.size_toArray, hdl, hn]
        apply Array.toList_inj.1
        rw [← hx]
        cases hvl : vals.toList with
        | nil => have := congrArg List.length hvl; simp at this hsz; simp [this] at hsz
        | cons y ys =>
          have : vals.getD 0 und = y := by rw [Array.getD_eq_getD_getElem?, ← Array.getElem?_toList, hvl]; rfl
          rw [← h0, this]; simp
      have hdsz : d.toArray.size = n := by simpa using hdl
      have hlt : (X.D s i).b < w.heap.size := (Array.getElem?_eq_some_iff.1 g1).1
      have hH : HoldsK (intE l) k w (X.D s i).b (X.D s i).o d.toArray := by
        intro j hj
        rw [size_flatK] at hj
        have hj' := hj
        rw [get_flatK _ _ _ _ hj']
        have he : j / k < d.length := by rw [hdl, ← hdsz]; exact Nat.div_lt_of_lt_mul (by rw [Nat.mul_comm]; exact hj)
        have hm : j % k < k := Nat.mod_lt _ hk0
        have e1 : B.els[j / k]? = some (intR l d[j / k]) := by rw [hd, List.getElem?_map, List.getElem?_eq_getElem he]; rfl
        have e2 : (intR l d[j / k])[j % k]? = some (.int .i64 ((l d[j / k])[j % k]'(by rw [hk]; exact hm))) := by
          unfold intR; rw [List.getElem?_map, List.getElem?_eq_getElem (by rw [hk]; exact hm)]; rfl
        obtain ⟨u, u1, u2, u3, u4⟩ := g6 _ _ _ _ e1 e2
        have u5 := u3.int_inv
        have hjk : (X.D s i).o + j / k * k + j % k = (X.D s i).o + j := by have := Nat.div_add_mod j k; rw [Nat.mul_comm] at this; omega
        rw [hz, hjk] at u1
        obtain ⟨m, m1, m2, _⟩ := intR_get l e2
        have e3 : d.toArray[j / k]! = d[j / k] := by simp [he]
        refine ⟨?_, ?_⟩
        · unfold World.cell?
          simp only [g1, Option.isSome_none, Bool.false_eq_true, if_false]
          injection m1 with _ m3
          rw [u1, u5, e3, m2, m3]; rfl
        · unfold World.frozen?
          simp [g1]
      rw [hvals]
      refine (hsort _ _ _ d.toArray w hH hlt (by omega) (by omega)).mono ?_
      rintro e w' ⟨rfl, q, os, rfl⟩
      have hs' := hsize d.toArray
      generalize hdd : srt d.toArray = d' at *
      have hd'n : d'.size = n := by omega
      have hB' : ({ B with els := d'.toList.map (intR l) } : Blk) = { B with els := d'.toList.map (intR l) } := rfl
      have hw1 : (putRowK (intE l) k w (X.D s i).b (X.D s i).o d').heap[(X.D s i).b]? = some (.cells (putCells id (X.D s i).o (flatK (intE l) k d') arr) B.ty (0, 0)) := by
        simp only [putRowK, putRow, mapBlock, Array.getElem?_modify, if_true, g1, Option.map_some, onCells]
      obtain ⟨hL, hI1⟩ := hI.turn (B' := { B with els := d'.toList.map (intR l) }) hB (w' := putRowK (intE l) k w (X.D s i).b (X.D s i).o d') (by simp [putRowK, putRow, mapBlock]) rfl rfl rfl hfz (by rw [Hd.real, g2]; simp)
        (fun b hne => by simp only [putRowK, putRow, mapBlock, Array.getElem?_modify]; rw [if_neg (fun e => hne e.symm)])
        (fun hL => { hN := hN, hz := hb.hz, hlen := by rw [hb.hlen]; simp; omega, rows := fun row hrow => by
                       obtain ⟨x, _, rfl⟩ := List.mem_map.1 hrow
                       simp [intR, hk, hz]
                     mem := .inr ⟨_, cap, hw1, by rw [g2]; simp; omega, by simp; omega, g4, by
                       have : (putCells id (X.D s i).o (flatK (intE l) k d') arr).size = arr.size := by simp [putCells]
                       rw [this]; exact g5, fun e j row c he hj => by
                         simp only at he
                         rw [List.getElem?_map] at he
                         cases hx : d'.toList[e]? with
                         | none => simp [hx] at he
                         | some x =>
                         rw [hx] at he
                         simp only [Option.map_some, Option.some.injEq] at he
                         subst he
                         obtain ⟨m, m1, m2, m3⟩ := intR_get l hj
                         rw [hk] at m3
                         have hel : e < d'.size := by have := (List.getElem?_eq_some_iff.1 hx).1; simpa using this
                         have hbnd : e * k + j < d'.size * k := by
                           have := Nat.mul_le_mul_right k (show e + 1 ≤ d'.size from hel); rw [Nat.add_mul, Nat.one_mul] at this; omega
                         have hin : (X.D s i).o + e * k + j < arr.size := by
                           have hcz := g5
                           rw [hz] at hcz
                           have : d'.size * k ≤ cap * k := Nat.mul_le_mul_right k (by omega)
                           omega
                         refine ⟨.int .i64 m, ?_, rfl, ?_, fun _ => ?_⟩
                         · rw [hz]
                           simp only [putCells, Array.getElem?_mapIdx, Array.getElem?_eq_getElem hin, Option.map_some, size_flatK]
                           rw [if_pos ⟨by omega, by omega⟩, show (X.D s i).o + e * k + j - (X.D s i).o = e * k + j by omega, get_flatK _ _ _ _ hbnd]
                           have e1 : (e * k + j) / k = e := (blk_iff k e _ hk0).1 ⟨by omega, by omega⟩
                           have e2 : (e * k + j) % k = j := by rw [Nat.mod_eq_sub_div_mul, e1]; omega
                           rw [e1, e2]
                           have e3 : d'[e]! = x := by
                             rw [Array.getElem?_toList] at hx
                             rw [getElem!_def, hx]
                           rw [e3, m2]; rfl
                         · rw [m1]; exact .pure (.int _ _)
                         · rw [m1]; exact .int _ _, g7, g8⟩ })
      obtain ⟨_, hI2⟩ := hI1.below (w' := Go.Sort.grow (putRowK (intE l) k (Sort.ahead w q) (X.D s i).b (X.D s i).o d') os) { os := rfl, tape := rfl, output := rfl, size := by simp [Go.Sort.grow, putRowK, putRow, mapBlock, Sort.ahead], block := (fun b hlt => by
        simp only [Go.Sort.grow, putRowK, putRow, mapBlock, Sort.ahead] at hlt ⊢
        rw [Array.getElem?_append_left hlt]) }
      exact ⟨_, A, X, rfl, hI2, .pure (.tup [] #[] rfl (fun i c h => by simp at h))⟩
  | _ => exact hc.elim
end
end Go.Sx
end
section
/- The library's sort of ints, of no element too, as a contract on the heap. No conditions. -/
set_option linter.unusedSimpArgs false
set_option linter.unusedSectionVars false
namespace Go.Sx
open Go.RowKit Go.Proofs Go.Sort
variable [Gls]

def inL (n : Int) : List Int := [n]
noncomputable def inSrt (d : Array Int) : Array Int := (d.toList.mergeSort fun x y => decide (x ≤ y)).toArray
def srtZ (l : List Int) : List Int := l.mergeSort fun x y => decide (x ≤ y)
omit [Gls] in
theorem srtZ_len (l : List Int) : (srtZ l).length = l.length := by simp [srtZ]
omit [Gls] in
theorem srtZ_mem (l : List Int) (x : Int) : x ∈ srtZ l ↔ x ∈ l := by simp [srtZ]
omit [Gls] in
theorem srtZ_asc (l : List Int) : (srtZ l).Pairwise (· ≤ ·) := by
  have := List.pairwise_mergeSort (le := fun x y : Int => decide (x ≤ y)) (fun a b c h1 h2 => by simp at *; omega) (fun a b => by simp; omega) l
  exact this.imp fun h => by simpa using h
noncomputable def srt0S : HSpec where
  go args h := match args with
    | [.nil] => ⟨True, .tup [], h⟩
    | [.bsl s i n] => if n = 0 then ⟨True, .tup [], h⟩ else (sortS inL 1 3 inSrt []).go [.bsl s i n] h
    | _ => ⟨False, .top, h⟩
theorem putRow_map (w : World) (blk off : Nat) (S : Array Int) : putRow (Value.int .i64) w blk off S = putRow id w blk off (S.map (Value.int .i64)) := by
  unfold putRow
  refine mapBlock_congr _ _ _ _ fun c e fr hc => ?_
  unfold putCells
  apply Array.ext (by simp)
  intro i h1 h2
  simp only [Array.getElem_mapIdx, Array.size_map, id]
  split
  · rename_i hin
    rw [getElem!_pos S (i - off) (by omega), getElem!_pos (S.map (Value.int .i64)) (i - off) (by simp; omega)]
    simp
  · rfl
theorem srtI_ok {P : Program} {f : FuncId} (hcall : ∀ (args : Array Value) (w : World), (callFunc f args).run P w = .ok (.enter f args) w)
    (h : ∀ (blk off cap : Nat) (zs : List Int) (w : World), Holds (Value.int .i64) w blk off zs.toArray → blk < w.heap.size → zs.length < 4611686018427387904 →
      Calls P f #[.slice (some ⟨blk, off, none⟩) zs.length cap] w fun e w' => e = .returned (.tuple #[]) ∧ ∃ n os, w' = grow (putRow (Value.int .i64) (Sort.ahead w n) blk off (zs.mergeSort fun x y => decide (x ≤ y)).toArray) os) :
    FnOK P f (.heap (sortS inL 1 3 inSrt [])) := sort_ok inL (exv := []) hcall (fun _ => rfl) (by decide) (fun x y h => by simpa [inL] using h) (fun d => by simp [inSrt])
  (fun w A X u hl hu => by
    match u, hl with
    | [], _ => rfl)
  (fun blk off cap d w hH hblk h1 h62 => by
    have hf : ∀ d : Array Int, flatK (intE inL) 1 d = d.map (Value.int .i64) := fun d => by
      apply Array.ext (by simp)
      intro i h1 h2
      simp [flatK, intE, inL, Nat.mod_one]
      rw [getElem!_pos d i (by simpa using h2)]
    have hH' : Holds (Value.int .i64) w blk off d.toList.toArray := fun j hj => by
      have := hH j (by rw [size_flatK]; simpa using hj)
      rw [hf] at this
      simpa [getElem!_pos d j (by simpa using hj), getElem!_pos (d.map (Value.int .i64)) j (by simpa using hj)] using this
    have := h blk off cap d.toList w hH' hblk (by simpa using h62)
    rw [Array.length_toList] at this
    refine this.mono ?_
    rintro e w' ⟨rfl, n, os, rfl⟩
    refine ⟨rfl, n, os, ?_⟩
    congr 1
    show putRow (Value.int .i64) _ blk off (inSrt d) = putRow id _ blk off (flatK (intE inL) 1 (inSrt d))
    rw [hf]
    exact putRow_map _ _ _ _)
theorem srt0_ok {P : Program} {f : FuncId} (h1 : FnOK P f (.heap (sortS inL 1 3 inSrt []))) (h0 : ∀ (p : Option Addr) (cap : Nat) (w : World), Calls P f #[.slice p 0 cap] w fun e w' => e = .returned (.tuple #[]) ∧ w' = w) : FnOK P f (.heap srt0S) := by
  refine { call := h1.call, iter := fun S' h => (by cases h), pure := fun S' hS => (by cases hS), heap := fun S' hS => ?_ }
  cases hS
  intro args h hc w A X vals hI hsz hargs
  have one : ∀ {x : Value}, vals.getD 0 und = x → vals.size = 1 → vals = #[x] := by
    intro x hx hs
    apply Array.ext (by simpa using hs)
    intro i h1 h2
    have : i = 0 := by omega
    subst this
    rw [Array.getD_eq_getD_getElem?, Array.getElem?_eq_getElem (by omega)] at hx
    simpa using hx
  match args, hc with
  | [], hc => exact hc.elim
  | _ :: _ :: _, hc => exact absurd hc (by simp [srt0S])
  | [x], hc =>
  cases x with
  | nil =>
    have e := one (hargs 0 .nil rfl).nil_inv (by simpa using hsz)
    rw [e]
    refine (h0 _ _ _).mono ?_
    rintro e w' ⟨rfl, rfl⟩
    exact ⟨_, A, X, rfl, hI, .pure (.tup [] #[] rfl (fun i c h => by simp at h))⟩
  | bsl s i n =>
    by_cases hn : n = 0
    · subst hn
      obtain ⟨a, c, e0, _⟩ := (hargs 0 (.bsl s i 0) rfl).bsl_inv
      have e := one e0 (by simpa using hsz)
      rw [e]
      refine (h0 _ _ _).mono ?_
      rintro e w' ⟨rfl, rfl⟩
      exact ⟨_, A, X, rfl, hI, .pure (.tup [] #[] rfl (fun i c h => by simp at h))⟩
    · have e : srt0S.go [.bsl s i n] h = (sortS inL 1 3 inSrt []).go [.bsl s i n] h := by simp only [srt0S, if_neg hn]
      rw [e] at hc ⊢
      exact h1.heap _ rfl _ h hc w A X vals hI hsz hargs
  | _ => exact hc.elim
omit [Gls] in
theorem srt0_go {h : Hp} {s i : Nat} {l : List Int} {cl : Bool} (hB : hget h s i = some { z := 1, els := l.map ri, ty := 3, cl := cl }) (h2 : l.length < 4611686018427387904) :
    srt0S.go [.bsl s i l.length] h = ⟨True, .tup [], hset h s i { z := 1, els := (srtZ l).map ri, ty := 3, cl := cl }⟩ := by
  by_cases h0 : l.length = 0
  · have : l = [] := List.eq_nil_of_length_eq_zero h0
    subst this
    have e : srtZ [] = [] := by simp [srtZ]
    simp only [srt0S, List.length_nil, if_true, e, hset_get hB]
  · have hR : ∀ x : Int, intR inL x = ri x := fun x => rfl
    have hd : l.map ri = l.map (intR inL) := rfl
    have hun : (l.map ri).map (unR inL) = l := by
      rw [hd, List.map_map]
      have : (unR inL ∘ intR inL) = id := funext fun x => unR_R (fun x y h => by simpa [inL] using h) x
      rw [this, List.map_id]
    have he : (inSrt l.toArray).toList.map (intR inL) = (srtZ l).map ri := by simp only [inSrt, srtZ]; rfl
    simp only [srt0S, if_neg h0, sortS, hB, hun, he]
    congr 1
    exact eq_true ⟨trivial, trivial, trivial, trivial, by rw [List.length_map], by omega, h2, l, hd⟩
end Go.Sx
end
section
/- The library's sort of ints at this program, by the kit's contracts. No conditions. -/
set_option linter.unusedSimpArgs false
set_option linter.unusedSectionVars false
set_option maxRecDepth 100000
namespace Go.Proofs
open Go.Shelf
def Tryz.lays189_ren : Go.Shelf.Ren := ⟨fun | 189 => 25 | 125 => 61 | 257 => 60 | 128 => 104 | 129 => 105 | 294 => 95 | 295 => 96 | 296 => 97 | 297 => 98 | 298 => 99 | 299 => 100 | 216 => 101 | 300 => 102 | 301 => 103 | 328 => 133 | 329 => 134 | 330 => 135 | 331 => 136 | 332 => 137 | 215 => 132 | 343 => 142 | n => n, fun | 28 => 37 | 3 => 3 | 46 => 137 | 0 => 0 | 51 => 178 | 53 => 180 | 4 => 4 | 183 => 172 | 182 => 171 | 131 => 175 | 5 => 5 | 9 => 9 | 218 => 199 | 222 => 203 | 228 => 209 | 229 => 182 | n => n, fun | n => n⟩
theorem Tryz.lays189 : Go.Proofs.Lays.n189 Tryz.prog Tryz.lays189_ren := {
  mixed := by kernel_rfl
  f125 := Tryz.func61.trans (congrArg some (by kernel_rfl))
  f128 := Tryz.func104.trans (congrArg some (by kernel_rfl))
  f129 := Tryz.func105.trans (congrArg some (by kernel_rfl))
  f189 := Tryz.func25.trans (congrArg some (by kernel_rfl))
  f215 := Tryz.func132.trans (congrArg some (by kernel_rfl))
  f216 := Tryz.func101.trans (congrArg some (by kernel_rfl))
  f257 := Tryz.func60.trans (congrArg some (by kernel_rfl))
  f294 := Tryz.func95.trans (congrArg some (by kernel_rfl))
  f295 := Tryz.func96.trans (congrArg some (by kernel_rfl))
  f296 := Tryz.func97.trans (congrArg some (by kernel_rfl))
  f297 := Tryz.func98.trans (congrArg some (by kernel_rfl))
  f298 := Tryz.func99.trans (congrArg some (by kernel_rfl))
  f299 := Tryz.func100.trans (congrArg some (by kernel_rfl))
  f300 := Tryz.func102.trans (congrArg some (by kernel_rfl))
  f301 := Tryz.func103.trans (congrArg some (by kernel_rfl))
  f328 := Tryz.func133.trans (congrArg some (by kernel_rfl))
  f329 := Tryz.func134.trans (congrArg some (by kernel_rfl))
  f330 := Tryz.func135.trans (congrArg some (by kernel_rfl))
  f331 := Tryz.func136.trans (congrArg some (by kernel_rfl))
  f332 := Tryz.func137.trans (congrArg some (by kernel_rfl))
  f343 := Tryz.func142.trans (congrArg some (by kernel_rfl))
  t0 := Tryz.underlying0
  a0 := Tryz.isAgg0
  z0 := Tryz.sizeOf0
  v0 := Tryz.zeroValue0
  t3 := Tryz.underlying3
  a3 := Tryz.isAgg3
  z3 := Tryz.sizeOf3
  v3 := Tryz.zeroValue3
  t4 := Tryz.underlying4
  a4 := Tryz.isAgg4
  z4 := Tryz.sizeOf4
  v4 := Tryz.zeroValue4
  t5 := Tryz.underlying5
  a5 := Tryz.isAgg5
  z5 := Tryz.sizeOf5
  v5 := Tryz.zeroValue5
  t9 := Tryz.underlying9
  a9 := Tryz.isAgg9
  z9 := Tryz.sizeOf9
  v9 := Tryz.zeroValue9
  t28 := Tryz.underlying37
  a28 := Tryz.isAgg37
  z28 := Tryz.sizeOf37
  v28 := Tryz.zeroValue37
  t46 := Tryz.underlying137
  a46 := Tryz.isAgg137
  z46 := Tryz.sizeOf137
  v46 := Tryz.zeroValue137
  t51 := Tryz.underlying178
  a51 := Tryz.isAgg178
  z51 := Tryz.sizeOf178
  v51 := Tryz.zeroValue178
  t53 := Tryz.underlying180
  a53 := Tryz.isAgg180
  z53 := Tryz.sizeOf180
  v53 := Tryz.zeroValue180
  t131 := Tryz.underlying175
  a131 := Tryz.isAgg175
  z131 := Tryz.sizeOf175
  v131 := Tryz.zeroValue175
  t182 := Tryz.underlying171
  a182 := Tryz.isAgg171
  z182 := Tryz.sizeOf171
  v182 := Tryz.zeroValue171
  t183 := Tryz.underlying172
  a183 := Tryz.isAgg172
  z183 := Tryz.sizeOf172
  v183 := Tryz.zeroValue172
  t218 := Tryz.underlying199
  a218 := Tryz.isAgg199
  z218 := Tryz.sizeOf199
  v218 := Tryz.zeroValue199
  t222 := Tryz.underlying203
  a222 := Tryz.isAgg203
  z222 := Tryz.sizeOf203
  v222 := Tryz.zeroValue203
  t228 := Tryz.underlying209
  a228 := Tryz.isAgg209
  z228 := Tryz.sizeOf209
  v228 := Tryz.zeroValue209
  t229 := Tryz.underlying182
  a229 := Tryz.isAgg182
  z229 := Tryz.sizeOf182
  v229 := Tryz.zeroValue182 }
open Go.Sort Go.RowKit in
theorem Tryz.slices_Sort_int (blk off cap : Nat) (zs : List Int) (w : World) (hH : Holds (Value.int .i64) w blk off zs.toArray) (hblk : blk < w.heap.size) (hsz : zs.length < 4611686018427387904) :
    Calls Tryz.prog 25 #[.slice (some ⟨blk, off, none⟩) zs.length cap] w fun e w' =>
      e = .returned (.tuple #[]) ∧ ∃ n os, w' = grow (putRow (Value.int .i64) (Sort.ahead w n) blk off (zs.mergeSort fun x y => decide (x ≤ y)).toArray) os := Any.slices_Sort_int Tryz.lays189 blk off cap zs w hH hblk hsz
open Go.RowKit Go.Sort in
theorem Tryz.slices_Sort_int_none (p : Option Addr) (cap : Nat) (w : World) :
    Calls Tryz.prog 25 #[.slice p 0 cap] w fun e w' => e = .returned (.tuple #[]) ∧ w' = w := Any.slices_Sort_int_none Tryz.lays189 p cap w
end Go.Proofs
namespace Go.Sx
open Go.Proofs
theorem ok25 : FnOK Tryz.prog 25 (.heap srt0S) := srt0_ok (srtI_ok (fun args w => run_call (fn := Tryz.f25) (by kernel_rfl) (by kernel_rfl) rfl args w) Tryz.slices_Sort_int) Tryz.slices_Sort_int_none
end Go.Sx
end
section
/- Parts: Suspects. No conditions. -/
set_option linter.unusedSimpArgs false
set_option linter.unusedSectionVars false
set_option maxRecDepth 100000
set_option maxHeartbeats 4000000
namespace Go.Sx
open Go.Proofs
attribute [local irreducible] HLe
attribute [local simp] hps_app

structure SuD where
  r : Reg
  l : List Wk
  m : Int
  pl : List (Int × Int)
  ch : List (Int × Int)
  deriving Inhabited
@[simp] def suE (d : SuD) : List V := [.agg d.r.row, .sl 4 (d.l.map Wk.row), .int .i64 d.m, .sl 2 (d.pl.map cycV), .sl 2 (d.ch.map cycV)]
theorem suE_inj (a b : SuD) (h : suE a = suE b) : a = b := by
  obtain ⟨r, l, m, p, c⟩ := a; obtain ⟨r', l', m', p', c'⟩ := b
  simp only [suE, List.cons.injEq, V.agg.injEq, V.sl.injEq, V.int.injEq, true_and, and_true] at h
  rw [Reg.row_inj _ _ h.1, map_inj Wk.row_inj h.2.1, h.2.2.1, cycV_inj h.2.2.2.1, cycV_inj h.2.2.2.2]
theorem suE_dec' (r : Reg) (l : List Wk) (m : Int) (p c : List (Int × Int)) : decC suE [.agg [.sl 3 (r.kinds.map Kd.row), .sl 4 (r.parts.map Pt.row), .int .i64 r.machines, .sl 2 (r.orders.map Od.row)], .sl 4 (l.map Wk.row), .int .i64 m, .sl 2 (p.map cycV), .sl 2 (c.map cycV)] = ⟨r, l, m, p, c⟩ := decC_eq suE_inj ⟨r, l, m, p, c⟩
structure SuP (d : SuD) : Prop where
  f : RL.Fine ⟨d.r, d.l⟩
  p : d.pl.length ≤ 9223372036854775807
  c : d.ch.length ≤ 9223372036854775807
/-- The parts at the places of some gears. -/
def HI.suOut (x : HI) (m : Int) (pl : List (Int × Int)) (w : List Int) : List Int := (w.map fun g => x.at (pl.getD g.toNat (0, 0)).1 m (pl.getD g.toNat (0, 0)).2).filter fun n => decide (0 ≤ n)
def suSet (l : List Int) : List Int := cpTo (srtZ l) (srtZ l).length
def HI.suBad (x : HI) (m : Int) (pl : List (Int × Int)) : Bool := !x.machine m || (!withinB pl.length 1 12 || pl.any x.badPl)
def suEr (r : Reg) (l : List Wk) (m : Int) (pl ch : List (Int × Int)) : Int := if opE r l = 0 then (if (opH r l).i.suBad m pl = true then 1 else if (explR 8 pl.length ch).2.2 = 0 then 0 else 1) else opE r l
def suRe (r : Reg) (l : List Wk) (m : Int) (pl ch : List (Int × Int)) : List Int := if suEr r l m pl ch = 0 then suSet ((opH r l).i.suOut m pl (explR 8 pl.length ch).2.1) else []
noncomputable abbrev suS : PSpec := mkP suE SuP fun d => .tup [ints (suRe d.r d.l d.m d.pl d.ch), .int .i64 (suEr d.r d.l d.m d.pl d.ch)]
theorem HI.suOut_succ (x : HI) (m : Int) (pl : List (Int × Int)) {w : List Int} {k : Nat} {g : Int} (hg : w[k]? = some g) :
    x.suOut m pl (w.take (k + 1)) = x.suOut m pl (w.take k) ++ if 0 ≤ x.at (pl.getD g.toNat (0, 0)).1 m (pl.getD g.toNat (0, 0)).2 then [x.at (pl.getD g.toNat (0, 0)).1 m (pl.getD g.toNat (0, 0)).2] else [] := by
  unfold HI.suOut
  rw [List.take_add_one, hg, List.map_append, List.filter_append]
  congr 1
  simp only [Option.toList, List.map_cons, List.map_nil, List.filter_cons, List.filter_nil, decide_eq_true_eq]
theorem HI.suOut_len (x : HI) (m : Int) (pl : List (Int × Int)) (w : List Int) : (x.suOut m pl w).length ≤ w.length := by
  have := List.length_filter_le (fun n => decide ((0 : Int) ≤ n)) (w.map fun g => x.at (pl.getD g.toNat (0, 0)).1 m (pl.getD g.toNat (0, 0)).2)
  rwa [List.length_map] at this
theorem sgL_dec' (x : HI) (l : List (Int × Int)) : decC sgL [.sl 2 (l.map cycV), .fn 19 [.ip 1 [[.ip 9 [[.sl 3 (x.r.kinds.map Kd.row), .sl 4 (x.r.parts.map Pt.row), .int .i64 x.r.machines, .sl 2 (x.r.orders.map Od.row), ptsI x.ps, .sl 1 (x.iss.map rb), x.v1, x.v2, x.v3]] 0 0]] 0 0]] = ⟨x, l⟩ := sgL_dec x l
noncomputable abbrev E7 : Env := { P := Tryz.prog, fn := tbl [(23, .pure ExplainS), (18, .pure openS), (19, .pure sgS), (20, .pure withinS), (21, .pure machineS), (22, .pure sgaS), (24, .pure haS), (25, .heap srt0S), (26, .heap cpcS)], own := [], key := 700, nt := 87 }
theorem b7 : PureBody E7 [] Tryz.f7 suS := by
  refine pb ?_
  rintro ⟨r, l, m, pl, ch⟩ ⟨hfn, hpl, hch⟩
  simp only at hfn hpl hch
  by_cases hE : opE r l = 0
  case neg =>
    have hR : suEr r l m pl ch = opE r l := by simp [suEr, hE]
    have hR2 : suRe r l m pl ch = [] := by simp [suRe, hR, hE]
    simp -dsimp [Tryz.f7, E7, Reg.row]
    repeat' (first | omega | (simp -dsimp [E7, ri, cellp, ints, rlE_dec', Reg.row, hfn, hE, hR, hR2]) | (refine Also.intro ?_ fun _ => ?_) | (refine Hold.intro fun _ => ?_) | (refine And.intro ?_ ?_))
  have hI := (opE_inv hE).2.2.2
  have hlen : (opH r l).i.ps.length ≤ 1000 := (opE_ok hE).ps
  have hkl : (opH r l).i.r.kinds.length ≤ 6 := by
    show (opH r l).r.kinds.length ≤ 6
    rw [hI.rg]; exact (valid_facts hI.val).1
  have hkl' : (opH r l).i.r.kinds.length ≤ 9223372036854775807 := by omega
  have hlen' : (opH r l).i.ps.length ≤ 9223372036854775807 := by omega
  have hsg : SgP ⟨(opH r l).i, pl⟩ := ⟨hkl', hpl⟩
  have hEr : suEr r l m pl ch = if (opH r l).i.suBad m pl = true then 1 else if (explR 8 pl.length ch).2.2 = 0 then 0 else 1 := by simp [suEr, hE]
  have hRe : suRe r l m pl ch = if suEr r l m pl ch = 0 then suSet ((opH r l).i.suOut m pl (explR 8 pl.length ch).2.1) else [] := rfl
  generalize hs : (opH r l).i = s at *
  cases hm : s.machine m
  · have hb : s.suBad m pl = true := by simp [HI.suBad, hm]
    rw [if_pos hb] at hEr
    rw [hEr, if_neg (by decide)] at hRe
    simp -dsimp [Tryz.f7, E7, Reg.row]
    repeat' (first | omega | (simp -dsimp [E7, ri, cellp, ints, rlE_dec', Reg.row, hfn, hE, hs, HI.v, hiE_dec', hm, hEr, hRe]) | (refine Also.intro ?_ fun _ => ?_) | (refine Hold.intro fun _ => ?_) | (refine And.intro ?_ ?_))
  cases hw : withinB pl.length 1 12
  · have hb : s.suBad m pl = true := by simp [HI.suBad, hw]
    rw [if_pos hb] at hEr
    rw [hEr, if_neg (by decide)] at hRe
    simp -dsimp [Tryz.f7, E7, Reg.row]
    repeat' (first | omega | (simp -dsimp [E7, ri, cellp, ints, rlE_dec', Reg.row, hfn, hE, hs, HI.v, hiE_dec', hm, hw, hEr, hRe]) | (refine Also.intro ?_ fun _ => ?_) | (refine Hold.intro fun _ => ?_) | (refine And.intro ?_ ?_))
  cases hy : pl.any s.badPl
  case true =>
    have hb : s.suBad m pl = true := by simp [HI.suBad, hy]
    rw [if_pos hb] at hEr
    rw [hEr, if_neg (by decide)] at hRe
    simp -dsimp [Tryz.f7, E7, Reg.row]
    repeat' (first | omega | (simp -dsimp [E7, ri, cellp, ints, rlE_dec', Reg.row, hfn, hE, hs, HI.v, hiC, hiE_dec', hm, hw, hy, sgL_dec', hsg, hEr, hRe]) | (refine Also.intro ?_ fun _ => ?_) | (refine Hold.intro fun _ => ?_) | (refine And.intro ?_ ?_))
  have hb : ¬ s.suBad m pl = true := by simp [HI.suBad, hm, hw, hy]
  rw [if_neg hb] at hEr
  by_cases hx : (explR 8 pl.length ch).2.2 = 0
  case neg =>
    rw [if_neg hx] at hEr
    rw [hEr, if_neg (by decide)] at hRe
    simp -dsimp [Tryz.f7, E7, Reg.row]
    repeat' (first | omega | (simp -dsimp [E7, ri, cellp, ints, rlE_dec', Reg.row, hfn, hE, hs, HI.v, hiC, hiE_dec', hm, hw, hy, sgL_dec', hsg, hpl, hch, hx, hEr, hRe]) | (refine Also.intro ?_ fun _ => ?_) | (refine Hold.intro fun _ => ?_) | (refine And.intro ?_ ?_))
  rw [if_pos hx] at hEr
  rw [hEr, if_pos rfl] at hRe
  have hwl : (explR 8 pl.length ch).2.1.length ≤ pl.length := expl_len (S := 8)
  have hwg : ∀ g ∈ (explR 8 pl.length ch).2.1, 0 ≤ g ∧ g < pl.length := expl_worn (S := 8)
  have hp12 : pl.length ≤ 12 := by
    have : 1 ≤ (pl.length : Int) ∧ (pl.length : Int) ≤ 12 := by simpa [withinB] using hw
    omega
  simp -dsimp [Tryz.f7, E7, Reg.row]
  repeat' (first | omega | (simp -dsimp [E7, ri, cellp, ints, rlE_dec', Reg.row, hfn, hE, hs, HI.v, hiC, hiE_dec', hm, hw, hy, sgL_dec', hsg, hpl, hch, hx]) | (refine Also.intro ?_ fun _ => ?_) | (refine Hold.intro fun _ => ?_) | (refine And.intro ?_ ?_))
  generalize (explR 8 pl.length ch).2.1 = wo at *
  have hwo : wo.length ≤ 12 := by omega
  clear hb hx
  refine awp_loop_g [(10, 781, 1, 3)] rfl (by simp) [59, 60, 61, 18, 62, 63, 64, 65, 66, 67, 68, 69, 70, 71, 72, 73, 74, 75, 19, 76, 77, 78, 79, 80, 81, 10, 82, 58] (fun k : Fin (wo.length + 1) => [(58, (true, .int .i64 (k.1 : Nat))), (10, (true, .bsl 781 0 (s.suOut m pl (wo.take k.1)).length))])
    (fun k => hps [(781, { base := 0, blks := [{ z := 1, els := (s.suOut m pl (wo.take k.1)).map ri, ty := 3 }] }), (712, { base := 0, blks := [{ z := 1, els := [[.ip 9 [[.sl 3 (s.r.kinds.map Kd.row), .sl 4 (s.r.parts.map Pt.row), .int .i64 s.r.machines, .sl 2 (s.r.orders.map Od.row), ptsI s.ps, .sl 1 (s.iss.map rb), s.v1, s.v2, s.v3]] 0 0]], ty := 66 }] }), (705, { base := 0, blks := [{ z := 4, els := [[.sl 3 (r.kinds.map Kd.row), .sl 4 (r.parts.map Pt.row), .int .i64 r.machines, .sl 2 (r.orders.map Od.row)]], ty := 26 }] })] noH) (fun k => wo.length - k.1) ⟨0, by omega⟩ ?_ ?_ ?_
  · simp [okAll, okv, HI.suOut]
  · exact (by (try simp -dsimp only [hpush_noH, hpush_hps, hps_over]); refine hle_hps ?_; simp -dsimp [allK, HI.suOut]; repeat' (first | (refine And.intro ?_ ?_) | (refine sLe.same ?_ ?_ <;> (simp; done)) | (refine sLe.clear ?_ ?_ <;> (first | (simp; done) | (simp; omega))) | (refine sLe.drop 1 ?_ ?_ ?_ <;> (simp; done))))
  rintro ⟨k, hk⟩
  simp only
  by_cases hk1 : k < wo.length
  · have hki : ((k : Int) < wo.length) = True := eq_true (by omega)
    have wk : IntKind.wrap .i64 ((k : Int) + 1) = (k + 1 : Nat) := wrap_id (by omega) (by omega)
    obtain ⟨g, hg, hg'⟩ := get_ex hk1
    obtain ⟨q1, q2⟩ := hwg g (by rw [← hg']; exact List.getElem_mem hk1)
    obtain ⟨G, rfl⟩ : ∃ G : Nat, g = G := ⟨g.toNat, by omega⟩
    have hGl : G < pl.length := by omega
    have hGi : ((G : Int) < pl.length) = True := eq_true (by omega)
    obtain ⟨⟨x, y⟩, hG, hG'⟩ := get_ex hGl
    have hT := s.suOut_succ m pl hg
    have hGd : pl.getD (G : Int).toNat (0, 0) = (x, y) := by simp [List.getD, hG]
    rw [hGd] at hT
    simp only at hT
    have hTl : (s.suOut m pl (wo.take k)).length ≤ 12 := by have := s.suOut_len m pl (wo.take k); rw [List.length_take] at this; omega
    generalize s.suOut m pl (wo.take k) = T at *
    have hb8 : (T.length + 1) * 8 ≤ 140737488355328 := by omega
    by_cases h0 : 0 ≤ s.at x m y
    · rw [if_pos h0] at hT
      simp -dsimp [hki]
      repeat' (first | omega | (simp -dsimp [E7, ri, cellp, ints, hki, hk1, hg, hg', wk, hGl, hGi, hG, hG', cycV, HI.v, haE_dec', hlen', h0, hb8]) | (refine Also.intro ?_ fun _ => ?_) | (refine Hold.intro fun _ => ?_) | (refine And.intro ?_ ?_))
      refine ⟨⟨k + 1, by omega⟩, tle_chain rfl ?_, (by (try simp -dsimp only [hpush_noH, hpush_hps, hps_over]); refine hle_hps ?_; simp -dsimp [allK, hT, ri]; repeat' (first | (refine And.intro ?_ ?_) | (refine sLe.same ?_ ?_ <;> (simp; done)) | (refine sLe.clear ?_ ?_ <;> (first | (simp; done) | (simp; omega))) | (refine sLe.drop 1 ?_ ?_ ?_ <;> (simp; done)))), by simp only; omega⟩
      simp [okAll, okv, hT]
    · rw [if_neg h0, List.append_nil] at hT
      have h0' : (0 ≤ s.at x m y) = False := eq_false h0
      simp -dsimp [hki]
      repeat' (first | omega | (simp -dsimp [E7, ri, cellp, ints, hki, hk1, hg, hg', wk, hGl, hGi, hG, hG', cycV, HI.v, haE_dec', hlen', h0', hb8]) | (refine Also.intro ?_ fun _ => ?_) | (refine Hold.intro fun _ => ?_) | (refine And.intro ?_ ?_))
      refine ⟨⟨k + 1, by omega⟩, tle_chain rfl ?_, (by (try simp -dsimp only [hpush_noH, hpush_hps, hps_over]); refine hle_hps ?_; simp -dsimp [allK, hT, ri]; repeat' (first | (refine And.intro ?_ ?_) | (refine sLe.same ?_ ?_ <;> (simp; done)) | (refine sLe.clear ?_ ?_ <;> (first | (simp; done) | (simp; omega))) | (refine sLe.drop 1 ?_ ?_ ?_ <;> (simp; done)))), by simp only; omega⟩
      simp [okAll, okv, hT]
  have hkn : ((k : Int) < wo.length) = False := eq_false (by omega)
  have hke : k = wo.length := by omega
  subst hke
  rw [List.take_length]
  have hTl : (s.suOut m pl wo).length ≤ 12 := by have := s.suOut_len m pl wo; omega
  generalize s.suOut m pl wo = T at *
  have hS : ∀ h : Hp, hget h 781 0 = some { z := 1, els := T.map ri, ty := 3 } → srt0S.go [.bsl 781 0 T.length] h = ⟨True, .tup [], hset h 781 0 { z := 1, els := (srtZ T).map ri, ty := 3 }⟩ := fun h hB => srt0_go hB (by omega)
  have hZl := srtZ_len T
  have hC : ∀ h : Hp, hget h 781 0 = some { z := 1, els := (srtZ T).map ri, ty := 3 } → cpcS.go [.bsl 781 0 T.length] h = ⟨True, cpcV 781 0 (srtZ T), hset h 781 0 { z := 1, els := (cpcL (srtZ T)).map ri, ty := 3 }⟩ := fun h hB => by
    rw [← hZl]; exact cpc_go hB (by omega) (by decide)
  have hRe' : suRe r l m pl ch = cpTo (srtZ T) (srtZ T).length := hRe
  generalize srtZ T = Z at *
  have hm1 := cpTo_len Z Z.length
  have hcL : (cpcL Z).map ri = (cpTo Z Z.length).map ri ++ List.replicate (Z.length - (cpTo Z Z.length).length) (ri 0) := by simp [cpcL]
  generalize hD : cpTo Z Z.length = D at *
  by_cases hDl : D.length = Z.length
  · have hV : cpcV 781 0 Z = .bsl 781 0 Z.length := by unfold cpcV; rw [hD, if_pos hDl]
    have hcL2 : (cpcL Z).map ri = D.map ri := by rw [hcL, hDl]; simp
    simp -dsimp [hkn]
    repeat' (first | omega | (simp -dsimp [E7, ri, cellp, ints, hkn, hS, hC, hV, hcL2, hRe', hEr, hDl, hZl]) | (refine Also.intro ?_ fun _ => ?_) | (refine Hold.intro fun _ => ?_) | (refine And.intro ?_ ?_))
  · have hV : cpcV 781 0 Z = .osl 781 0 Z.length 0 D.length Z.length := by unfold cpcV; rw [hD, if_neg hDl]
    have htk : ((cpcL Z).map ri).take D.length = D.map ri := by rw [hcL]; exact List.take_left' (by simp)
    have hcl : (cpcL Z).length = Z.length := by simp [cpcL, hD]; omega
    simp -dsimp [hkn]
    repeat' (first | omega | (simp -dsimp [E7, ri, cellp, ints, hkn, hS, hC, hV, htk, hcl, hRe', hEr, hZl]) | (refine Also.intro ?_ fun _ => ?_) | (refine Hold.intro fun _ => ?_) | (refine And.intro ?_ ?_))
theorem ok7 : FnOK Tryz.prog 7 (.pure suS) := pure_fn (E := E7) rfl (.cons ok23 (.cons ok18 (.cons ok19 (.cons ok20 (.cons ok21 (.cons ok22 (.cons ok24 (.cons ok25 (.cons ok26 .nil))))))))) (ok := []) (fn := Tryz.f7) (by kernel_rfl) (by kernel_rfl) (by kernel_rfl) (by kernel_rfl) rfl (fun _ _ => by simp) b7
end Go.Sx
end
section
/- Parts: a flight's conditions; general lemmas. No conditions. -/
set_option linter.unusedSimpArgs false
set_option linter.unusedSectionVars false
namespace Go.Sx
def HI.can (x : HI) (m h c : Int) (p : PS) : Bool := !(p.a == m) || (decide (h ≤ x.leftT p) && decide (c ≤ x.leftC p))
def HI.flies (x : HI) (m h c : Int) : Bool := decide (x.lacks m = []) && x.ps.all (x.can m h c)
section core
variable {x y : HI}
theorem imin_le (h a b : Int) : h ≤ imin a b ↔ h ≤ a ∧ h ≤ b := by unfold imin; split <;> omega
theorem longG_le {h : Int} (h0 : 0 ≤ h) (m c : Int) : ∀ (l : List PS) (most : Int), h ≤ x.longG m c l most ↔ h ≤ most ∧ l.all (x.can m h c) = true
  | [], most => by simp [HI.longG]
  | p :: l, most => by
    simp only [HI.longG, List.all_cons, Bool.and_eq_true]
    by_cases hm : p.a = m
    · rw [if_pos hm]
      by_cases hc : x.leftC p < c
      · rw [if_pos hc]
        have hcan : x.can m h c p = false := by
          have : ¬ c ≤ x.leftC p := by omega
          simp [HI.can, hm, this]
        rw [hcan]; simp; omega
      · rw [if_neg hc, longG_le h0 m c l, imin_le]
        have hcan : x.can m h c p = decide (h ≤ x.leftT p) := by
          have : c ≤ x.leftC p := by omega
          simp [HI.can, hm, this]
        rw [hcan, decide_eq_true_eq, and_assoc]
    · rw [if_neg hm, longG_le h0 m c l]
      have hcan : x.can m h c p = true := by simp [HI.can, hm]
      rw [hcan]; simp
theorem longest_flies {h : Int} (h0 : 0 ≤ h) (h1 : h ≤ 100) (m c : Int) : decide (h ≤ x.longest m c) = x.flies m h c := by
  by_cases hl : x.lacks m = []
  · simp only [HI.longest, HI.flies, hl, if_true, decide_true, Bool.true_and]
    have := longG_le (x := x) h0 m c x.ps 100
    cases ha : x.ps.all (x.can m h c)
    · rw [ha] at this; exact decide_eq_false fun hh => by simpa using (this.1 hh).2
    · rw [ha] at this; exact decide_eq_true (this.2 ⟨h1, rfl⟩)
  · simp only [HI.longest, HI.flies, hl, if_false, decide_false, Bool.false_and]
    simp; omega
end core
theorem getD_set_ne {α : Type} {l : List α} {i j : Nat} {x d : α} (h : i ≠ j) : (l.set i x).getD j d = l.getD j d := by simp [List.getD, List.getElem?_set_ne h]
theorem getD_set_eq {α : Type} {l : List α} {i : Nat} {x d : α} (h : i < l.length) : (l.set i x).getD i d = x := by simp [List.getD, h]
def RS.partA (r : Reg) (n : Int) : Bool := withinB n 0 (wsub r.parts.length 1)
end Go.Sx
end
section
/- Parts: no part is beyond its life. No conditions. -/
set_option linter.unusedSimpArgs false
set_option linter.unusedSectionVars false
namespace Go.Sx

def imax (a b : Int) : Int := if a < b then b else a
/-- What holds of a part behind right works. -/
structure LivP (r : Reg) (x : Pt) (p : PS) : Prop where
  h0 : x.hours ≤ p.hours
  c0 : x.cycles ≤ p.cycles
  h1 : p.hours ≤ imax (r.kinds.getD x.kind.toNat default).hours x.hours
  c1 : p.cycles ≤ imax (r.kinds.getD x.kind.toNat default).cycles x.cycles
  un : x.known = false → p.hours = x.hours ∧ p.cycles = x.cycles ∧ p.a < 0
def Liv (r : Reg) (s : HG) : Prop := ∀ (k : Nat) (p : PS), s.ps[k]? = some p → LivP r (r.parts.getD k default) p
theorem leftH_le (x : HI) (p : PS) : ∀ i, x.leftH p i ≤ x.leftH p 0
  | 0 => Int.le_refl _
  | i + 1 => by
    have := leftH_le x p i
    have e : x.leftH p (i + 1) = if x.leftI p i = true then imin (x.leftH p i) (wsub (x.r.orders.getD i default).within (p.since.getD i 0)) else x.leftH p i := rfl
    rw [e]
    split
    · unfold imin; split <;> omega
    · exact this
theorem Liv.new (r : Reg) : Liv r (HG.new r) := by
  intro k p hp
  have hp' : (r.parts.map (PS.new r))[k]? = some p := hp
  rw [List.getElem?_map] at hp'
  cases hq : r.parts[k]? with
  | none => rw [hq] at hp'; simp at hp'
  | some q =>
    rw [hq] at hp'
    simp only [Option.map_some, Option.some.injEq] at hp'
    subst hp'
    have hg : r.parts.getD k default = q := by simp [List.getD, hq]
    rw [hg]
    have hm : ∀ a b : Int, b ≤ imax a b := fun a b => by unfold imax; split <;> omega
    exact ⟨Int.le_refl _, Int.le_refl _, hm _ _, hm _ _, fun _ => ⟨rfl, rfl, by show (-1 : Int) < 0; omega⟩⟩
theorem Liv.step {r : Reg} {s : HG} {n : Nat} (hI : s.Inv r n) (h : Liv r s) {w : Wk} (hw : s.doOk w = true) : Liv r (s.step w) := by
  have hst : s.step w = { s.doDo w with wk := wadd s.wk 1 } := by simp only [HG.step, HG.after, hw, if_true]
  rw [hst]
  clear hst
  obtain ⟨v1, v2, v3, v4, v5, v6, v7, v8⟩ := valid_facts hI.val
  have hput : ∀ (m : Nat) (a b : Int), (a < 0 ∨ ∃ p, s.ps[m]? = some p ∧ p.known = true) → ∀ (k : Nat) (p' : PS), (s.ps.set m { s.ps.getD m default with a := a, b := b })[k]? = some p' → LivP r (r.parts.getD k default) p' := by
    intro m a b hab k p' hp'
    rcases getElem?_set_cases hp' with ⟨rfl, rfl, hl⟩ | ⟨_, e⟩
    · have e : s.ps[k]? = some s.ps[k] := List.getElem?_eq_getElem hl
      have hg : s.ps.getD k default = s.ps[k] := by simp [List.getD, hl]
      rw [hg]
      have hL := h k _ e
      refine ⟨hL.h0, hL.c0, hL.h1, hL.c1, fun hu => ⟨(hL.un hu).1, (hL.un hu).2.1, ?_⟩⟩
      rcases hab with ha | ⟨p, hp, hk⟩
      · exact ha
      · rw [e] at hp; cases hp
        have := (hI.pk k _ e).2.1
        rw [this, hu] at hk; cases hk
    · exact h k p' e
  by_cases k1 : w.kind = 1
  · have hf : s.flyOk w.a w.b w.c = true := by simpa [HG.doOk, k1] using hw
    simp only [HG.doDo, k1, if_true]
    simp only [HG.flyOk, Bool.and_eq_true, decide_eq_true_eq] at hf
    obtain ⟨f1, f2, f3, f4⟩ := hf
    simp only [withinB, decide_eq_true_eq] at f2 f3
    intro k p' hp'
    have hp2 : (s.ps.map (flyP s.iss w.a w.b w.c))[k]? = some p' := hp'
    rw [List.getElem?_map] at hp2
    cases hq : s.ps[k]? with
    | none => rw [hq] at hp2; simp at hp2
    | some q =>
      rw [hq] at hp2
      simp only [Option.map_some, Option.some.injEq] at hp2
      subst hp2
      have hL := h k q hq
      unfold flyP
      by_cases hm : q.a = w.a
      case neg => rw [if_neg hm]; exact hL
      rw [if_pos hm]
      have hfl : s.i.flies w.a w.b w.c = true := by rw [← longest_flies f2.1 f2.2]; exact decide_eq_true f4
      simp only [HI.flies, Bool.and_eq_true] at hfl
      have hcan := List.all_eq_true.1 hfl.2 q (List.mem_of_getElem? hq)
      simp only [HI.can, hm, beq_self_eq_true, Bool.not_true, Bool.false_or, Bool.and_eq_true, decide_eq_true_eq] at hcan
      obtain ⟨g1, g2⟩ := hcan
      have hkl : k < r.parts.length := by rw [← hI.psl]; exact (List.getElem?_eq_some_iff.1 hq).1
      obtain ⟨p1, _⟩ := hI.pk k q hq
      have hxb := v7 _ (getD_mem hkl)
      have hkm : (r.parts.getD k default).kind.toNat < r.kinds.length := by omega
      have hkb := v6 _ (getD_mem hkm)
      have hmx : ∀ a b : Int, a ≤ imax a b ∧ b ≤ imax a b ∧ (imax a b = a ∨ imax a b = b) := fun a b => by unfold imax; split <;> omega
      have e1 := hL.h0
      have e2 := hL.h1
      have e3 := hL.c0
      have e4 := hL.c1
      obtain ⟨m1, m2, m3⟩ := hmx (r.kinds.getD (r.parts.getD k default).kind.toNat default).hours (r.parts.getD k default).hours
      obtain ⟨m4, m5, m6⟩ := hmx (r.kinds.getD (r.parts.getD k default).kind.toNat default).cycles (r.parts.getD k default).cycles
      have hT : s.i.leftT q ≤ (r.kinds.getD (r.parts.getD k default).kind.toNat default).hours - q.hours := by
        have a1 := leftH_le s.i q s.i.r.orders.length
        have a2 : s.i.leftH q 0 = wsub (s.r.kinds.getD q.kind.toNat default).hours q.hours := rfl
        rw [hI.rg, p1] at a2
        have a3 : wsub (r.kinds.getD (r.parts.getD k default).kind.toNat default).hours q.hours = (r.kinds.getD (r.parts.getD k default).kind.toNat default).hours - q.hours := wrap_id (by omega) (by omega)
        rw [a2, a3] at a1
        exact a1
      have hC : s.i.leftC q = (r.kinds.getD (r.parts.getD k default).kind.toNat default).cycles - q.cycles := by
        have a2 : s.i.leftC q = wsub (s.r.kinds.getD q.kind.toNat default).cycles q.cycles := rfl
        rw [hI.rg, p1] at a2
        rw [a2]
        exact wrap_id (by omega) (by omega)
      have w1 : wadd q.hours w.b = q.hours + w.b := wrap_id (by omega) (by omega)
      have w2 : wadd q.cycles w.c = q.cycles + w.c := wrap_id (by omega) (by omega)
      refine ⟨by show _ ≤ wadd q.hours w.b; rw [w1]; omega, by show _ ≤ wadd q.cycles w.c; rw [w2]; omega, by show wadd q.hours w.b ≤ _; rw [w1]; omega, by show wadd q.cycles w.c ≤ _; rw [w2]; omega, fun hu => ?_⟩
      have := (hL.un hu).2.2
      have hma : s.i.machine w.a = withinB w.a 0 (wsub r.machines 1) := by show withinB w.a 0 (wsub s.r.machines 1) = _; rw [hI.rg]
      rw [hma] at f1
      simp only [withinB, decide_eq_true_eq] at f1
      omega
  by_cases k2 : w.kind = 2
  · have hf : s.fitOk w.a w.b w.c = true := by simpa [HG.doOk, k2] using hw
    simp only [HG.doDo, k2, Int.reduceEq, if_false, if_true]
    simp only [HG.fitOk, Bool.and_eq_true] at hf
    obtain ⟨f1, f2, f3, f4, f5, f6⟩ := hf
    obtain ⟨m, hm, hml⟩ := withinB_nat (m := s.ps.length) (by rw [hI.psl]; omega) f1
    rw [hm] at f4
    rw [Int.toNat_natCast] at f4
    have hk : ∃ p, s.ps[m]? = some p ∧ p.known = true := by
      have hg : s.ps.getD m default = s.ps[m] := by simp [List.getD, hml]
      rw [hg] at f4
      exact ⟨_, List.getElem?_eq_getElem hml, f4⟩
    rw [hm]
    unfold HG.fitDo
    split <;> exact fun k p' hp' => hput m w.b w.c (.inr hk) k p' hp'
  by_cases k5 : w.kind = 5
  · simp only [HG.doDo, k5, Int.reduceEq, if_false, if_true]
    intro k p' hp'
    rcases getElem?_set_cases hp' with ⟨hk, e, hl⟩ | ⟨_, e⟩
    · subst hk
      have e2 : s.ps[w.a.toNat]? = some s.ps[w.a.toNat] := List.getElem?_eq_getElem hl
      have hg : s.ps.getD w.a.toNat default = s.ps[w.a.toNat] := by simp [List.getD, hl]
      rw [hg] at e
      have hL := h _ _ e2
      subst e
      exact ⟨hL.h0, hL.c0, hL.h1, hL.c1, hL.un⟩
    · exact h k p' e
  by_cases k3 : w.kind = 3
  · simp only [HG.doDo, k3, Int.reduceEq, if_false, if_true]
    exact fun k p' hp' => hput w.a.toNat (-1) (-1) (.inl (by omega)) k p' hp'
  by_cases k4 : w.kind = 4
  · simp only [HG.doDo, k4, Int.reduceEq, if_false, if_true]
    exact h
  by_cases k6 : w.kind = 6
  · simp only [HG.doDo, k6, Int.reduceEq, if_false, if_true]
    exact fun k p' hp' => hput w.a.toNat (-2) (-2) (.inl (by omega)) k p' hp'
  · simp [HG.doOk, k1, k2, k5, k3, k4, k6] at hw
theorem stT_liv {r : Reg} {l : List Wk} (hv : r.valid = true) : ∀ k : Nat, k ≤ 1000000 → (∀ j, j < k → okAt r l j = true) → Liv r (stT r l k)
  | 0, _, _ => Liv.new r
  | k + 1, hk, h => (stT_liv hv k (by omega) fun j hj => h j (by omega)).step (stT_inv hv k (by omega) fun j hj => h j (by omega)) (h k (by omega))
theorem opE_liv {r : Reg} {l : List Wk} (h : opE r l = 0) : Liv r (opH r l) := by
  obtain ⟨h1, h2, h3, _⟩ := opE_inv h
  exact stT_liv h1 _ (by omega) h3
end Go.Sx
end
