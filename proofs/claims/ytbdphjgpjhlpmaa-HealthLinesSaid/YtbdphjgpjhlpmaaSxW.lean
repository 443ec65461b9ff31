/- A sort of the library, as a contract on the heap. No conditions. -/
import Derived.Test.YtbdphjgpjhlpmaaSxP
import Derived.Shelf.GgSortFunc.RowK
import Derived.Sort.Grow
set_option linter.unusedSimpArgs false
set_option linter.unusedVariables false
namespace Go.Sx
open Go.RowKit Go.Proofs Go.Sort

section
variable {α : Type} [Inhabited α] (l : α → List Int)

/-- An element's cells: ints. -/
def intR (x : α) : List V := (l x).map (V.int .i64)
def intE (x : α) : List Value := (l x).map (Value.int .i64)

open Classical in
noncomputable def unR (row : List V) : α := if h : ∃ x, intR l x = row then h.choose else default
variable {l} in
theorem unR_R (hinj : ∀ x y, l x = l y → x = y) (x : α) : unR l (intR l x) = x := by
  unfold unR
  have h : ∃ y, intR l y = intR l x := ⟨x, rfl⟩
  rw [dif_pos h]
  have hc := h.choose_spec
  refine hinj _ _ ?_
  unfold intR at hc
  have hm : ∀ a b : List Int, a.map (V.int .i64) = b.map (V.int .i64) → a = b := by
    intro a
    induction a with
    | nil => intro b h; cases b with
      | nil => rfl
      | cons => simp at h
    | cons x a ih => intro b h; cases b with
      | nil => simp at h
      | cons y b => simp only [List.map_cons, List.cons.injEq, V.int.injEq, true_and] at h; rw [h.1, ih b h.2]
  exact hm _ _ hc

/-- The sort's contract: it gets an owned slice, whole; its rows are sorted then by 'srt'. -/
noncomputable def sortS (k : Nat) (ty : TypeId) (srt : Array α → Array α) (ex : List V) : HSpec where
  go args h := match args with
    | .bsl s i n :: r => match hget h s i with
      | some B => ⟨r = ex ∧ B.fz = false ∧ B.z = k ∧ B.ty = ty ∧ n = B.els.length ∧ 1 ≤ n ∧ n < 4611686018427387904 ∧ ∃ d : List α, B.els = d.map (intR l), .tup [], hset h s i { B with els := (srt (B.els.map (unR l)).toArray).toList.map (intR l) }⟩
      | none => ⟨False, .top, h⟩
    | _ => ⟨False, .top, h⟩

theorem intR_get {α : Type} (l : α → List Int) {x : α} {j : Nat} {c : V} (h : (intR l x)[j]? = some c) : ∃ n, c = .int .i64 n ∧ (intE l x)[j]! = .int .i64 n ∧ j < (l x).length := by
  unfold intR at h
  rw [List.getElem?_map] at h
  cases hj : (l x)[j]? with
  | none => simp [hj] at h
  | some n =>
    rw [hj] at h
    simp only [Option.map_some, Option.some.injEq] at h
    refine ⟨n, h.symm, ?_, (List.getElem?_eq_some_iff.1 hj).1⟩
    unfold intE
    rw [List.getElem!_eq_getElem?_getD, List.getElem?_map, hj]; rfl

theorem sort_ok {P : Program} {f : FuncId} {k : Nat} {ty : TypeId} {srt : Array α → Array α} {ex : List V} {exv : List Value}
    (hcall : ∀ (args : Array Value) (w : World), (callFunc f args).run P w = .ok (.enter f args) w) (hk : ∀ x, (l x).length = k) (hk0 : 0 < k) (hinj : ∀ x y, l x = l y → x = y) (hsize : ∀ d, (srt d).size = d.size)
    (hexv : ∀ (w : World) (A : Nat → Prop) (X : Refs) (u : List Value), u.length = ex.length → (∀ i c, ex[i]? = some c → RV w A X c (u.getD i und)) → u = exv)
    (hsort : ∀ (blk off cap : Nat) (d : Array α) (w : World), HoldsK (intE l) k w blk off d → blk < w.heap.size → 1 ≤ d.size → d.size < 4611686018427387904 →
      Calls P f (Value.slice (some ⟨blk, off, none⟩) d.size cap :: exv).toArray w fun e w' => e = .returned (.tuple #[]) ∧ ∃ n os, w' = Go.Sort.grow (putRowK (intE l) k (Sort.ahead w n) blk off (srt d)) os) :
    FnOK P f (.heap (sortS l k ty srt ex)) := by
  refine { call := hcall, pure := fun S' hS => (by cases hS), heap := fun S' hS => ?_ }
  cases hS
  intro args h hc w A X vals hI hsz hargs
  match args, hc with
  | [], hc => exact hc.elim
  | x :: r, hc =>
  cases x with
  | bsl s i n =>
    cases hB : hget h s i with
    | none => simp [sortS, hB] at hc
    | some B =>
      have hgo : (sortS l k ty srt ex).go (.bsl s i n :: r) h = ⟨r = ex ∧ B.fz = false ∧ B.z = k ∧ B.ty = ty ∧ n = B.els.length ∧ 1 ≤ n ∧ n < 4611686018427387904 ∧ ∃ d : List α, B.els = d.map (intR l), .tup [], hset h s i { B with els := (srt (B.els.map (unR l)).toArray).toList.map (intR l) }⟩ := by simp only [sortS, hB]
      rw [hgo] at hc ⊢
      obtain ⟨hr, hfz, hz, hty, hn, h1, h62, d, hd⟩ := hc
      subst hr
      have hun : B.els.map (unR l) = d := by
        rw [hd, List.map_map]
        have : (unR l ∘ intR l) = id := funext fun x => unR_R hinj x
        rw [this, List.map_id]
      simp only [hun]
      have hdl : d.length = n := by rw [hn, hd, List.length_map]
      obtain ⟨a, c, e0, hN, hnl, hv⟩ := (hargs 0 (.bsl s i n) rfl).bsl_inv
      have hb := hI.blk s i B hB
      have hv' := hv (by rw [hb.hlen, hn])
      rcases hb.mem with ⟨_, hnil⟩ | ⟨arr, cap, g1, g2, g3, g4, g5, g6, g7, g8⟩
      · rw [hnil] at hn; simp at hn; omega
      have hvals : vals = (Value.slice (some ⟨(X.D s i).b, (X.D s i).o, none⟩) d.toArray.size cap :: exv).toArray := by
        have hx := hexv w A X (vals.toList.drop 1) (by simp at hsz ⊢; omega) (fun j c hj => by
          have := hargs (j + 1) c (by simpa using hj)
          rw [List.getD_eq_getElem?_getD, List.getElem?_drop, Array.getElem?_toList, Nat.add_comm 1 j]
          rwa [Array.getD_eq_getD_getElem?] at this)
        have h0 : vals.getD 0 und = Value.slice (some ⟨(X.D s i).b, (X.D s i).o, none⟩) d.toArray.size cap := by
          rw [e0, hv', g2]; simp only [List.size_toArray, hdl, hn]
        apply Array.toList_inj.1
        rw [← hx]
        cases hvl : vals.toList with
        | nil => have := congrArg List.length hvl; simp at this hsz; simp [this] at hsz
        | cons y ys =>
          have : vals.getD 0 und = y := by rw [Array.getD_eq_getD_getElem?, ← Array.getElem?_toList, hvl]; rfl
          rw [← h0, this]; simp
      have hdsz : d.toArray.size = n := by simpa using hdl
      have hlt : (X.D s i).b < w.heap.size := (Array.getElem?_eq_some_iff.1 g1).1
      have hH : HoldsK (intE l) k w (X.D s i).b (X.D s i).o d.toArray := by
        intro j hj
        rw [size_flatK] at hj
        have hj' := hj
        rw [get_flatK _ _ _ _ hj']
        have he : j / k < d.length := by rw [hdl, ← hdsz]; exact Nat.div_lt_of_lt_mul (by rw [Nat.mul_comm]; exact hj)
        have hm : j % k < k := Nat.mod_lt _ hk0
        have e1 : B.els[j / k]? = some (intR l d[j / k]) := by rw [hd, List.getElem?_map, List.getElem?_eq_getElem he]; rfl
        have e2 : (intR l d[j / k])[j % k]? = some (.int .i64 ((l d[j / k])[j % k]'(by rw [hk]; exact hm))) := by
          unfold intR; rw [List.getElem?_map, List.getElem?_eq_getElem (by rw [hk]; exact hm)]; rfl
        obtain ⟨u, u1, u2, u3, u4⟩ := g6 _ _ _ _ e1 e2
        have u5 := u3.int_inv
        have hjk : (X.D s i).o + j / k * k + j % k = (X.D s i).o + j := by have := Nat.div_add_mod j k; rw [Nat.mul_comm] at this; omega
        rw [hz, hjk] at u1
        obtain ⟨m, m1, m2, _⟩ := intR_get l e2
        have e3 : d.toArray[j / k]! = d[j / k] := by simp [he]
        refine ⟨?_, ?_⟩
        · unfold World.cell?
          simp only [g1, Option.isSome_none, Bool.false_eq_true, if_false]
          injection m1 with _ m3
          rw [u1, u5, e3, m2, m3]; rfl
        · unfold World.frozen?
          simp [g1]
      rw [hvals]
      refine (hsort _ _ _ d.toArray w hH hlt (by omega) (by omega)).mono ?_
      rintro e w' ⟨rfl, q, os, rfl⟩
      have hs' := hsize d.toArray
      generalize hdd : srt d.toArray = d' at *
      have hd'n : d'.size = n := by omega
      have hB' : ({ B with els := d'.toList.map (intR l) } : Blk) = { B with els := d'.toList.map (intR l) } := rfl
      have hw1 : (putRowK (intE l) k w (X.D s i).b (X.D s i).o d').heap[(X.D s i).b]? = some (.cells (putCells id (X.D s i).o (flatK (intE l) k d') arr) B.ty (0, 0)) := by
        simp only [putRowK, putRow, mapBlock, Array.getElem?_modify, if_true, g1, Option.map_some, onCells]
      obtain ⟨hL, hI1⟩ := hI.turn (B' := { B with els := d'.toList.map (intR l) }) hB (w' := putRowK (intE l) k w (X.D s i).b (X.D s i).o d') (by simp [putRowK, putRow, mapBlock]) rfl rfl rfl hfz (by rw [Hd.real, g2]; simp)
        (fun b hne => by simp only [putRowK, putRow, mapBlock, Array.getElem?_modify]; rw [if_neg (fun e => hne e.symm)])
        (fun hL => { hN := hN, hz := hb.hz, hlen := by rw [hb.hlen]; simp; omega, rows := fun row hrow => by
                       obtain ⟨x, _, rfl⟩ := List.mem_map.1 hrow
                       simp [intR, hk, hz]
                     mem := .inr ⟨_, cap, hw1, by rw [g2]; simp; omega, by simp; omega, g4, by
                       have : (putCells id (X.D s i).o (flatK (intE l) k d') arr).size = arr.size := by simp [putCells]
                       rw [this]; exact g5, fun e j row c he hj => by
                         simp only at he
                         rw [List.getElem?_map] at he
                         cases hx : d'.toList[e]? with
                         | none => simp [hx] at he
                         | some x =>
                         rw [hx] at he
                         simp only [Option.map_some, Option.some.injEq] at he
                         subst he
                         obtain ⟨m, m1, m2, m3⟩ := intR_get l hj
                         rw [hk] at m3
                         have hel : e < d'.size := by have := (List.getElem?_eq_some_iff.1 hx).1; simpa using this
                         have hbnd : e * k + j < d'.size * k := by
                           have := Nat.mul_le_mul_right k (show e + 1 ≤ d'.size from hel); rw [Nat.add_mul, Nat.one_mul] at this; omega
                         have hin : (X.D s i).o + e * k + j < arr.size := by
                           have hcz := g5
                           rw [hz] at hcz
                           have : d'.size * k ≤ cap * k := Nat.mul_le_mul_right k (by omega)
                           omega
                         refine ⟨.int .i64 m, ?_, rfl, ?_, fun _ => ?_⟩
                         · rw [hz]
                           simp only [putCells, Array.getElem?_mapIdx, Array.getElem?_eq_getElem hin, Option.map_some, size_flatK]
                           rw [if_pos ⟨by omega, by omega⟩, show (X.D s i).o + e * k + j - (X.D s i).o = e * k + j by omega, get_flatK _ _ _ _ hbnd]
                           have e1 : (e * k + j) / k = e := (blk_iff k e _ hk0).1 ⟨by omega, by omega⟩
                           have e2 : (e * k + j) % k = j := by rw [Nat.mod_eq_sub_div_mul, e1]; omega
                           rw [e1, e2]
                           have e3 : d'[e]! = x := by
                             rw [Array.getElem?_toList] at hx
                             rw [getElem!_def, hx]
                           rw [e3, m2]; rfl
                         · rw [m1]; exact .pure (.int _ _)
                         · rw [m1]; exact .int _ _, g7, g8⟩ })
      obtain ⟨_, hI2⟩ := hI1.below (w' := Go.Sort.grow (putRowK (intE l) k (Sort.ahead w q) (X.D s i).b (X.D s i).o d') os) { os := rfl, tape := rfl, output := rfl, size := by simp [Go.Sort.grow, putRowK, putRow, mapBlock, Sort.ahead], block := (fun b hlt => by
        simp only [Go.Sort.grow, putRowK, putRow, mapBlock, Sort.ahead] at hlt ⊢
        rw [Array.getElem?_append_left hlt]) }
      exact ⟨_, A, X, rfl, hI2, .pure (.tup [] #[] rfl (fun i c h => by simp at h))⟩
  | _ => exact hc.elim
end
end Go.Sx
