/- A part of a proof; no conditions. -/
import Derived.Test.YtnpdjaikmdagmaaDoorP01
set_option linter.unusedSimpArgs false
set_option linter.unusedVariables false
set_option linter.unusedSectionVars false
section
/- The operations' soundness, one by one. No conditions. -/
namespace Go.Sx
open Go.RowKit
variable [Gls]

omit [Gls] in
theorem slEl_some {P : Program} {T e : TypeId} (h : slEl P T = some e) : P.underlying T = some (.slice e) := by
  unfold slEl at h; split at h <;> simp_all
omit [Gls] in
theorem arEl_some {P : Program} {T e : TypeId} {n : Nat} (h : arEl P T = some (n, e)) : P.underlying T = some (.array n e) := by
  unfold arEl at h; split at h <;> simp_all
omit [Gls] in
theorem fld_some {P : Program} {S : TypeId} {f o : Nat} {ft : TypeId} (h : fld P S f = some (o, ft)) : ∃ fs x, P.underlying S = some (.struct fs) ∧ fs[f]? = some x ∧ x.offset = o ∧ x.type = ft := by
  unfold fld at h
  split at h
  · rename_i fs hu
    cases hf : fs[f]? with
    | none => simp [hf] at h
    | some x => simp [hf] at h; exact ⟨fs, x, hu, hf, h.1, h.2⟩
  · simp at h
omit [Gls] in
theorem info_of_cells {P : Program} {T : TypeId} (h : 0 < P.cellsOf T) : ∃ i, P.info? T = some i ∧ i.size = P.cellsOf T := by
  unfold Program.cellsOf at h ⊢
  cases hi : P.info? T with
  | none => simp [hi] at h
  | some i => exact ⟨i, rfl, rfl⟩
omit [Gls] in
theorem run_sizeOf' {P : Program} {T : TypeId} (h : 0 < P.cellsOf T) (w : World) : (sizeOf T).run P w = .ok (P.cellsOf T) w := by
  obtain ⟨i, hi, hs⟩ := info_of_cells h
  simp [sizeOf, typeInfo, hi, hs]
omit [Gls] in
theorem zc_some {P : Program} {T : TypeId} (h0 : 0 < P.cellsOf T) (hl : (zc P T).length = P.cellsOf T) : ∃ i zv, P.info? T = some i ∧ i.size = P.cellsOf T ∧ i.zero = some zv ∧ zc P T = zv.cells.toList.map ofVal1 ∧ zv.cells.size = P.cellsOf T := by
  obtain ⟨i, hi, hs⟩ := info_of_cells h0
  have hz : zc P T = match i.zero with | some z => z.cells.toList.map ofVal1 | none => [] := by unfold zc; rw [hi]; rfl
  cases hzz : i.zero with
  | none => rw [hzz] at hz; simp only at hz; rw [hz] at hl; simp at hl; omega
  | some zv =>
    rw [hzz] at hz; simp only at hz
    refine ⟨i, zv, hi, hs, hzz, hz, ?_⟩
    rw [hz] at hl; simpa using hl
omit [Gls] in
theorem run_isAgg {P : Program} {T : TypeId} (h : tyOk P T = true) (w : World) : (isAgg T).run P w = .ok (isAg P T) w := by
  unfold tyOk at h
  cases hu : P.underlying T with
  | none => simp [hu] at h
  | some d =>
    simp only [isAgg, isAg, Sem.run_bind, run_underlying hu, Result.andThen_ok, hu]
    cases d <;> rfl

omit [Gls] in
theorem pv_ofVal1 (w : World) (A : Nat → Prop) (v : Value) : PV w A (ofVal1 v) v := by
  unfold ofVal1
  split
  · exact .int _ _
  · exact .bool _
  · exact .nil
  · exact .nilp
  · exact .nilf
  · exact .top _
omit [Gls] in
theorem pv_ofVal (w : World) (A : Nat → Prop) (v : Value) : PV w A (ofVal v) v := by
  unfold ofVal
  split
  · rename_i cs
    refine .agg _ _ (by simp) fun i c hc => ?_
    rw [List.getElem?_map] at hc
    cases hi : cs.toList[i]? with
    | none => simp [hi] at hc
    | some x =>
      simp [hi] at hc; subst hc
      have : cs.getD i und = x := by rw [Array.getD_eq_getD_getElem?, ← Array.getElem?_toList, hi]; rfl
      rw [this]; exact pv_ofVal1 w A x
  · exact pv_ofVal1 w A _

section
variable {F : Fr} {w : World} {A : Nat → Prop} {X : Refs} {h : Hp} {P : Program}

/-- A row in memory, read from one of its cells on. -/
def RowAt (w : World) (A : Nat → Prop) (X : Refs) (a : Addr) (row : List V) : Prop :=
  ∃ us : Nat → Value, ∀ k c, row[k]? = some c → w.cell? (a.add k) = some (us k) ∧ RV w A X c (us k)

omit [Gls] in
theorem load_row {T : TypeId} {a : Addr} {row : List V} {j : Nat} (hr : RowAt w A X a (row.drop j)) (hlen : j + P.cellsOf T ≤ row.length) (h1 : isAg P T = false → P.cellsOf T = 1) (hT : tyOk P T = true) (h0 : 0 < P.cellsOf T) :
    ∃ r, (loadVar T a).run P w = .ok r w ∧ RV w A X (loadR P T row j) r := by
  obtain ⟨us, hus⟩ := hr
  have hget : ∀ k, k < P.cellsOf T → ∃ c, (row.drop j)[k]? = some c := fun k hk => ⟨_, List.getElem?_eq_getElem (by rw [List.length_drop]; omega)⟩
  cases hag : isAg P T with
  | true =>
    have hl := run_loadCells (P := P) w a (P.cellsOf T) us (fun k hk => by obtain ⟨c, hc⟩ := hget k hk; exact (hus k c hc).1)
    refine ⟨.agg ((List.range (P.cellsOf T)).map us).toArray, by simp [loadVar, run_isAgg hT, hag, run_sizeOf' h0, hl], ?_⟩
    simp only [loadR, hag, if_true]
    refine .agg _ _ (by simp; omega) fun k c hc => ?_
    have hk : k < P.cellsOf T := by have := (List.getElem?_eq_some_iff.1 hc).1; rw [List.length_take] at this; omega
    rw [List.getElem?_take_of_lt hk] at hc
    have : (((List.range (P.cellsOf T)).map us).toArray).getD k und = us k := by simp [Array.getD_eq_getD_getElem?, hk]
    rw [this]; exact (hus k c hc).2
  | false =>
    have hone := h1 hag
    obtain ⟨c, hc⟩ := hget 0 h0
    have h2 := hus 0 c hc
    have ha : a.add 0 = a := by simp [Addr.add]
    rw [ha] at h2
    refine ⟨us 0, by simp [loadVar, run_isAgg hT, hag, h2.1], ?_⟩
    simp only [loadR, hag]
    have : row.getD j .top = c := by rw [List.getElem?_drop, Nat.add_zero] at hc; simp [List.getD, hc]
    simp only [Bool.false_eq_true, if_false, this]; exact h2.2

omit [Gls] in
theorem rowAt_block {b o z e j : Nat} {els : List (List V)} (hc : ∀ k c, (els.getD e [])[k]? = some c → ∃ u, w.cell? ⟨b, o + e * z + k, none⟩ = some u ∧ RV w A X c u) :
    RowAt w A X ⟨b, o + e * z + j, none⟩ ((els.getD e []).drop j) := by
  refine ⟨fun k => (w.cell? ⟨b, o + e * z + (j + k), none⟩).getD und, fun k c hk => ?_⟩
  rw [List.getElem?_drop] at hk
  obtain ⟨u, h1, h2⟩ := hc (j + k) c hk
  rw [addr_add, show o + e * z + j + k = o + e * z + (j + k) by omega]
  simp only [h1, Option.getD_some]
  exact ⟨trivial, h2⟩

omit [Gls] in
theorem getD_get {els : List (List V)} {e : Nat} (he : e < els.length) : els[e]? = some (els.getD e []) := by
  simp [List.getD, List.getElem?_eq_getElem he]

/-- The cells of an owned block, at hand. -/
theorem Inv.cells (hI : Inv F w A X h) {s i : Nat} {B : Blk} (hB : hget h s i = some B) {e : Nat} (he : e < B.els.length) :
    ∀ (k : Nat) (c : V), (B.els.getD e [])[k]? = some c → ∃ u, w.cell? ⟨(X.D s i).b, (X.D s i).o + e * B.z + k, none⟩ = some u ∧ u.oneCell' = true ∧ RV w A X c u ∧ (B.cl = true → PV w A c u) := by
  intro k c hk
  have hb := hI.blk s i B hB
  rcases hb.mem with ⟨_, hn⟩ | ⟨arr, cap, h1, h2, h3, h4, h5, h6, _⟩
  · rw [hn] at he; simp at he
  · obtain ⟨u, g1, g2, g3, g4⟩ := h6 e k _ c (getD_get he) hk
    exact ⟨u, by simp [World.cell?, h1, g1], g2, g3, g4⟩

theorem sLoad_sound {T : TypeId} {v : V} {u : Value} (hI : Inv F w A X h) (hr : RV w A X v u) (hc : (sLoad P T v h).c) : ∃ r, (Instr.loadAt T u).run P w = .ok r w ∧ RV w A X (sLoad P T v h).v r := by
  cases v <;> simp only [sLoad, bad] at hc ⊢
  case ip z els e j =>
    obtain ⟨he, hj, h1, hT, h0⟩ := hc
    have h' := hr.ip_inv
    cases h' with
    | ip _ _ _ _ b off us hb hA hz hcell hv =>
      have hrow := rowAt_block (w := w) (A := A) (X := X) (b := b) (o := off) (z := z) (e := e) (j := j) (fun k c hk => ⟨us e k, (hcell e k _ c (getD_get he) hk).1, .pure (hv e k _ c (getD_get he) hk)⟩)
      have hlen : (els.getD e []).length = z := hz _ (List.mem_of_getElem? (getD_get he))
      obtain ⟨r, hr1, hr2⟩ := load_row (P := P) (T := T) hrow (by omega) h1 hT h0
      exact ⟨r, by simp [Instr.loadAt, Instr.sureAddr, hr1], hr2⟩
  case bptr s i n e j =>
    cases hg : hget h s i with
    | none => simp [hg] at hc
    | some B =>
      simp only [hg] at hc ⊢
      obtain ⟨hn, he, hj, h1, hT, h0⟩ := hc
      obtain ⟨a, rfl, _, _, ha⟩ := hr.bptr_inv
      have hb := hI.blk s i B hg
      have ha' := ha (by rw [hb.hlen]; exact hn)
      rw [hb.hz] at ha'
      subst ha'
      have hrow := rowAt_block (w := w) (A := A) (X := X) (b := (X.D s i).b) (o := (X.D s i).o) (z := B.z) (e := e) (j := j) (fun k c hk => by obtain ⟨u, g1, _, g3, _⟩ := hI.cells hg he k c hk; exact ⟨u, g1, g3⟩)
      have hlen : (B.els.getD e []).length = B.z := hb.rows _ (List.mem_of_getElem? (getD_get he))
      obtain ⟨r, hr1, hr2⟩ := load_row (P := P) (T := T) hrow (by omega) h1 hT h0
      exact ⟨r, by simp [Instr.loadAt, Instr.sureAddr, hr1], hr2⟩

theorem sStore_sound {T : TypeId} {a x : V} {ua ux : Value} (hI : Inv F w A X h) (ha : RV w A X a ua) (hx : RV w A X x ux) (hc : (sStore P T a x h).c) :
    ∃ w', (Instr.storeAt T ua ux).run P w = .ok () w' ∧ Later w A w' A ∧ Inv F w' A X (sStore P T a x h).h := by
  cases a <;> simp only [sStore, bad] at hc ⊢
  case bptr s i n e j =>
    cases hg : hget h s i with
    | none => simp [hg] at hc
    | some B =>
      simp only [hg] at hc ⊢
      obtain ⟨hn, he, hj, h0, hfz, hlen, hall⟩ := hc
      obtain ⟨ad, rfl, _, _, had⟩ := ha.bptr_inv
      have hb := hI.blk s i B hg
      have ha' := had (by rw [hb.hlen]; exact hn)
      rw [hb.hz] at ha'
      subst ha'
      have hcs := hx.cells hall
      obtain ⟨w', hr, hL, hI'⟩ := hI.store P hg hfz he (cs := x.cells) (us := ux.cells) (j := j) (by omega) hcs
      refine ⟨w', ?_, hL, hI'⟩
      have hsz : ux.cells.size = P.cellsOf T := by rw [hcs.1, hlen]
      simp [Instr.storeAt, Instr.sureAddr, storeVar, run_sizeOf' h0, hsz, hr]

omit [Gls] in
theorem sNil_sound {x : V} {u : Value} (hr : RV w A X x u) (hc : (sNil x h).c) : (∃ a, u = .pointer (some a)) ∧ RV w A X (sNil x h).v u := by
  cases x <;> simp only [sNil, bad] at hc ⊢
  case ip z els e j => have h' := hr.ip_inv; cases h'; exact ⟨⟨_, rfl⟩, hr⟩
  case bptr s i n e j => obtain ⟨a, rfl, _⟩ := hr.bptr_inv; exact ⟨⟨_, rfl⟩, hr⟩

omit [Gls] in
theorem vite_sound {b : Bool} {x y : V} {u1 u2 : Value} (hx : b = true → RV w A X x u1) (hy : b = false → RV w A X y u2) : RV w A X (vite b x y) (if b then u1 else u2) := by
  have gen : RV w A X (if b then x else y) (if b then u1 else u2) := by cases b <;> simp_all
  unfold vite
  split
  · rename_i p q
    cases b
    · rw [(hy rfl).bool_inv]; exact .pure (.bool _)
    · rw [(hx rfl).bool_inv]; exact .pure (.bool _)
  · rename_i k m k' n
    split
    · rename_i hk; subst hk
      cases b
      · rw [(hy rfl).int_inv]; exact .pure (.int _ _)
      · rw [(hx rfl).int_inv]; exact .pure (.int _ _)
    · exact gen
  · exact gen

omit [Gls] in
theorem sFieldAddr_sound {S : TypeId} {x : V} {f : Nat} {u : Value} (hr : RV w A X x u) (hc : (sFieldAddr P S x f h).c) : ∃ r, (Instr.fieldAt S u f).run P w = .ok r w ∧ RV w A X (sFieldAddr P S x f h).v r := by
  unfold sFieldAddr at hc ⊢
  split at hc
  · rename_i z els e j o ft hf
    simp only at hc ⊢
    obtain ⟨fs, fd, hu, hfs, rfl, rfl⟩ := fld_some hf
    have h' := hr.ip_inv
    cases h' with
    | ip _ _ _ _ b off us hb hA hz hcell hv =>
      refine ⟨.pointer (some ⟨b, off + e * z + (j + fd.offset), none⟩), ?_, .pure (.ip z els e _ b off us hb hA hz hcell hv)⟩
      have h0 : P.cellsOf fd.type ≠ 0 := by omega
      simp [Instr.fieldAt, run_underlying hu, hfs, Instr.sureAddr, fieldPlace, run_sizeOf' hc, h0, addr_add, Nat.add_assoc]
  · rename_i s i n e j o ft hf
    simp only at hc ⊢
    obtain ⟨fs, fd, hu, hfs, rfl, rfl⟩ := fld_some hf
    obtain ⟨a, rfl, hN, hn, ha⟩ := hr.bptr_inv
    refine ⟨.pointer (some (a.add fd.offset)), ?_, .bptr s i n e _ _ hN hn fun hh => by rw [ha hh, addr_add, Nat.add_assoc]⟩
    have h0 : P.cellsOf fd.type ≠ 0 := by omega
    simp [Instr.fieldAt, run_underlying hu, hfs, Instr.sureAddr, fieldPlace, run_sizeOf' hc, h0]
  · exact hc.elim

omit [Gls] in
theorem agg_row {cs : List V} {us : Array Value} (hl : us.size = cs.length) {o n : Nat} (ho : o + n ≤ cs.length) (hc : ∀ i c, cs[i]? = some c → RV w A X c (us.getD i und)) :
    RV w A X (.agg ((cs.drop o).take n)) (.agg (us.extract o (o + n))) := by
  refine .agg _ _ (by simp; omega) fun i c hi => ?_
  have hlt : i < n := by have := (List.getElem?_eq_some_iff.1 hi).1; rw [List.length_take] at this; omega
  rw [List.getElem?_take_of_lt hlt, List.getElem?_drop] at hi
  have h1 := hc _ c hi
  have : (us.extract o (o + n)).getD i und = us.getD (o + i) und := by
    simp only [Array.getD_eq_getD_getElem?, Array.getElem?_extract]
    rw [if_pos (by omega)]
  rw [this]; exact h1

omit [Gls] in
theorem part_sound {ft : TypeId} {cs : List V} {us : Array Value} (hl : us.size = cs.length) {o : Nat} (ho : o + P.cellsOf ft ≤ cs.length) (h0 : 0 < P.cellsOf ft) (hT : tyOk P ft = true) (hc : ∀ i c, cs[i]? = some c → RV w A X c (us.getD i und)) :
    ∃ r, (part ft us o).run P w = .ok r w ∧ RV w A X (loadR P ft cs o) r := by
  cases hag : isAg P ft with
  | true =>
    refine ⟨.agg (us.extract o (o + P.cellsOf ft)), by simp [part, run_isAgg hT, hag, run_sizeOf' h0], ?_⟩
    simp only [loadR, hag, if_true]
    exact agg_row hl ho hc
  | false =>
    have hlt : o < us.size := by omega
    refine ⟨us[o], by simp [part, run_isAgg hT, hag, Array.getElem?_eq_getElem hlt], ?_⟩
    have h2 := hc o cs[o] (List.getElem?_eq_getElem (by omega))
    simp only [loadR, hag, Bool.false_eq_true, if_false]
    have e1 : us.getD o und = us[o] := by simp [Array.getD_eq_getD_getElem?, Array.getElem?_eq_getElem hlt]
    have e2 : cs.getD o .top = cs[o] := by simp [List.getD, List.getElem?_eq_getElem (show o < cs.length by omega)]
    rw [e2, ← e1]; exact h2

omit [Gls] in
theorem sField_sound {S : TypeId} {x : V} {f : Nat} {u : Value} (hr : RV w A X x u) (hc : (sField P S x f h).c) : ∃ r, (Instr.field S u f).run P w = .ok r w ∧ RV w A X (sField P S x f h).v r := by
  unfold sField at hc ⊢
  split at hc
  · rename_i cs o ft hf
    simp only at hc ⊢
    obtain ⟨fs, fd, hu, hfs, rfl, rfl⟩ := fld_some hf
    obtain ⟨us, rfl, hl, hcs⟩ := hr.agg_inv
    obtain ⟨h1, h2, _, h4⟩ := hc
    obtain ⟨r, hr1, hr2⟩ := part_sound (P := P) hl h1 h2 h4 hcs
    exact ⟨r, by simp [Instr.field, run_underlying hu, hfs, asAgg, hr1], hr2⟩
  · exact hc.elim

omit [Gls] in
theorem sIndex_sound {T : TypeId} {x ix : V} {u ui : Value} (hr : RV w A X x u) (hi : RV w A X ix ui) (hc : (sIndex P T x ix h).c) : ∃ r, (Instr.index T u ui).run P w = .ok r w ∧ RV w A X (sIndex P T x ix h).v r := by
  unfold sIndex at hc ⊢
  split at hc
  · rename_i k n cs len e hf
    simp only at hc ⊢
    have hu := arEl_some hf
    obtain ⟨us, rfl, hl, hcs⟩ := hr.agg_inv
    rw [hi.int_inv]
    obtain ⟨h1, h2, h3, h4, _, h6⟩ := hc
    have hb : n.toNat * P.cellsOf e + P.cellsOf e ≤ cs.length := by
      rw [h3]
      have : (n.toNat + 1) * P.cellsOf e ≤ len * P.cellsOf e := Nat.mul_le_mul_right _ (by omega)
      rw [Nat.add_mul] at this; omega
    obtain ⟨r, hr1, hr2⟩ := part_sound (P := P) hl hb h4 h6 hcs
    exact ⟨r, by simp [Instr.index, asIntOf, run_underlying hu, h1, h2, run_sizeOf' h4, hr1], hr2⟩
  · exact hc.elim

theorem sIndexAddr_sound {T : TypeId} {x ix : V} {u ui : Value} (hI : Inv F w A X h) (hr : RV w A X x u) (hi : RV w A X ix ui) (hc : (sIndexAddr P T x ix h).c) : ∃ r, (Instr.indexAt T u ui).run P w = .ok r w ∧ RV w A X (sIndexAddr P T x ix h).v r := by
  unfold sIndexAddr at hc ⊢
  split at hc
  · rename_i k n
    rw [hi.int_inv]
    split at hc
    · rename_i _ z els e hf
      simp only at hc ⊢
      obtain ⟨h1, h2, h3, h4⟩ := hc
      have hu := slEl_some hf
      have h' := hr.sl_inv
      cases h' with
      | sl0 => simp at h4; omega
      | sl _ _ b off cap us hcap hb hA hz hcell hv =>
        refine ⟨.pointer (some ⟨b, off + n.toNat * z + 0, none⟩), ?_, .pure (.ip z els _ _ b off us hb hA hz hcell hv)⟩
        simp [Instr.indexAt, asIntOf, run_underlying hu, h3, h4, run_sizeOf' (h1 ▸ h2), addr_add, h1]
    · rename_i _ s i m e hf
      have hu := slEl_some hf
      cases hg : hget h s i with
      | none => simp [hg, bad] at hc
      | some B =>
        simp only [hg] at hc ⊢
        obtain ⟨h1, h2, h3, h4, h5⟩ := hc
        obtain ⟨a, c, rfl, hN, hn, ha⟩ := hr.bsl_inv
        have hb := hI.blk s i B hg
        have hv := ha (by rw [hb.hlen]; exact h3)
        rcases hb.mem with ⟨_, hnil⟩ | ⟨arr, cap, g1, g2, _⟩
        · rw [hnil] at h3; simp at h3; omega
        · rw [g2] at hv
          injection hv with hv1 hv2 hv3
          subst hv1
          refine ⟨.pointer (some ⟨(X.D s i).b, (X.D s i).o + n.toNat * P.cellsOf e, none⟩), ?_, .bptr s i m _ _ _ hN hn fun _ => by rw [hb.hz, h1]; simp⟩
          simp [Instr.indexAt, asIntOf, run_underlying hu, h4, h5, run_sizeOf' (h1 ▸ h2), addr_add]
    · rename_i _ s i m off len cp e hf
      have hu := slEl_some hf
      cases hg : hget h s i with
      | none => simp [hg, bad] at hc
      | some B =>
        simp only [hg] at hc ⊢
        obtain ⟨h1, h2, h3, h4, h5⟩ := hc
        obtain ⟨a, c', rfl, hcc, hN, hn, ha⟩ := hr.osl_inv
        have hb := hI.blk s i B hg
        refine ⟨.pointer (some (a.add (n.toNat * P.cellsOf e))), ?_, .bptr s i m _ _ _ hN hn fun hh => by rw [(ha hh).1, addr_add, hb.hz, h1, Nat.add_mul, ← Nat.add_assoc]; simp⟩
        simp [Instr.indexAt, asIntOf, run_underlying hu, h4, h5, run_sizeOf' (h1 ▸ h2)]
    · rename_i _ z els e0 j len e hf
      simp only at hc ⊢
      obtain ⟨h1, h2, h3⟩ := hc
      have hu := arEl_some hf
      have h' := hr.ip_inv
      cases h' with
      | ip _ _ _ _ b off us hb hA hz hcell hv =>
        refine ⟨.pointer (some ⟨b, off + e0 * z + (j + n.toNat * P.cellsOf e), none⟩), ?_, .pure (.ip z els _ _ b off us hb hA hz hcell hv)⟩
        simp [Instr.indexAt, asIntOf, Instr.sureAddr, run_underlying hu, h1, h2, run_sizeOf' h3, addr_add, Nat.add_assoc]
    · rename_i _ s i m e0 j len e hf
      simp only at hc ⊢
      obtain ⟨h1, h2, h3⟩ := hc
      have hu := arEl_some hf
      obtain ⟨a, rfl, hN, hn, ha⟩ := hr.bptr_inv
      refine ⟨.pointer (some (a.add (n.toNat * P.cellsOf e))), ?_, .bptr s i m _ _ _ hN hn fun hh => by rw [ha hh, addr_add, Nat.add_assoc]⟩
      simp [Instr.indexAt, asIntOf, Instr.sureAddr, run_underlying hu, h1, h2, run_sizeOf' h3]
    · exact hc.elim
  · exact hc.elim

end
end Go.Sx
end
section
/- The soundness of what builds and allocates. No conditions. -/
namespace Go.Sx
open Go.RowKit
variable [Gls]

omit [Gls] in
theorem zip_set (off : Nat) : ∀ (L : List Value) (k : Nat) (cells : Array Value), off + k + L.length ≤ cells.size →
    ((L.zipIdx k).foldl (fun cs p => cs.setIfInBounds (off + p.2) p.1) cells).size = cells.size ∧
    ∀ x, ((L.zipIdx k).foldl (fun cs p => cs.setIfInBounds (off + p.2) p.1) cells)[x]? = if off + k ≤ x ∧ x < off + k + L.length then L[x - (off + k)]? else cells[x]?
  | [], k, cells, _ => by
    refine ⟨rfl, fun x => ?_⟩
    rw [if_neg (by simp only [List.length_nil]; omega)]; rfl
  | v :: L, k, cells, h => by
    simp only [List.length_cons] at h
    have ih := zip_set off L (k + 1) (cells.setIfInBounds (off + k) v) (by simp; omega)
    simp only [List.zipIdx_cons, List.foldl_cons]
    refine ⟨by rw [ih.1]; simp, fun x => ?_⟩
    rw [ih.2 x]
    by_cases h1 : off + (k + 1) ≤ x ∧ x < off + (k + 1) + L.length
    · rw [if_pos h1, if_pos (by simp only [List.length_cons]; omega)]
      rw [show x - (off + k) = (x - (off + (k + 1))) + 1 by omega]; simp
    · rw [if_neg h1]
      by_cases h2 : x = off + k
      · subst h2
        rw [if_pos (by simp only [List.length_cons]; omega)]
        have : off + k < cells.size := by omega
        simp [this]
      · rw [if_neg (by simp only [List.length_cons]; omega)]
        rw [Array.getElem?_setIfInBounds, if_neg (fun e => h2 e.symm)]

omit [Gls] in
theorem fold_set (off : Nat) (us cells : Array Value) (h : off + us.size ≤ cells.size) :
    (us.zipIdx.foldl (fun cs (p : Value × Nat) => match p with | (c, j) => cs.setIfInBounds (off + j) c) cells).size = cells.size ∧
    ∀ x, (us.zipIdx.foldl (fun cs (p : Value × Nat) => match p with | (c, j) => cs.setIfInBounds (off + j) c) cells)[x]? = if off ≤ x ∧ x < off + us.size then us[x - off]? else cells[x]? := by
  have hz := zip_set off us.toList 0 cells (by simpa using h)
  have e : us.zipIdx.foldl (fun cs (p : Value × Nat) => match p with | (c, j) => cs.setIfInBounds (off + j) c) cells = (us.toList.zipIdx 0).foldl (fun cs p => cs.setIfInBounds (off + p.2) p.1) cells := by
    rw [← Array.foldl_toList, Array.toList_zipIdx]
  rw [e]
  refine ⟨hz.1, fun x => ?_⟩
  rw [hz.2 x]
  simp

section
variable {F : Fr} {w : World} {A : Nat → Prop} {X : Refs} {h : Hp} {P : Program}

omit [Gls] in
theorem ofVal1_cells {zs : Array Value} (hall : (zs.toList.map ofVal1).all V.cell1 = true) : CellsOK w A X (zs.toList.map ofVal1) zs := by
  refine ⟨by simp, fun j c hj => ?_⟩
  rw [List.getElem?_map] at hj
  cases hi : zs.toList[j]? with
  | none => simp [hi] at hj
  | some x =>
    simp [hi] at hj; subst hj
    have h1 : PV w A (ofVal1 x) x := pv_ofVal1 w A x
    refine ⟨x, by simpa using hi, h1.one ?_, .pure h1⟩
    simp only [List.all_eq_true] at hall
    exact hall _ (List.mem_map.2 ⟨x, List.mem_of_getElem? hi, rfl⟩)

omit [Gls] in
theorem ofVal1_pv {zs : List Value} {j : Nat} {c : V} (hj : (zs.map ofVal1)[j]? = some c) : ∃ x, zs[j]? = some x ∧ PV w A c x := by
  rw [List.getElem?_map] at hj
  cases hi : zs[j]? with
  | none => simp [hi] at hj
  | some x => simp [hi] at hj; subst hj; exact ⟨x, rfl, pv_ofVal1 w A x⟩

/-- A new variable of one row. -/
theorem new_row (hI : Inv F w A X h) (key : Nat) (cs : List V) (us : Array Value) (ty : TypeId) (cl : Bool) (hcs : CellsOK w A X cs us) (hcl : cl = true → ∀ (j : Nat) (c : V) (u : Value), cs[j]? = some c → us[j]? = some u → PV w A c u) :
    ∃ A' X', Later w A (w.alloc (.cells us ty)) A' ∧ Xle X X' ∧ Inv F (w.alloc (.cells us ty)) A' X' (hpush h key { z := cs.length, els := [cs], ty := ty, cl := cl }) ∧
      RV (w.alloc (.cells us ty)) A' X' (.bptr key (hnext h key) 1 0 0) (.pointer (some ⟨w.heap.size, 0, none⟩)) := by
  have hI' := hI.alloc key { z := cs.length, els := [cs], ty := ty, cl := cl } us 1 rfl (by simp) (by decide) (by simp) (by simp [hcs.1]) (by
    intro e j row c he hj
    cases e with
    | zero =>
      simp at he; subst he
      obtain ⟨u, h1, h2, h3⟩ := hcs.2 j c hj
      exact ⟨u, by simpa using h1, h2, h3, fun hc => hcl hc j c u hj h1⟩
    | succ e => simp at he)
  refine ⟨_, _, hI.later_alloc _, hI.xle_new key _ 1, hI', ?_⟩
  refine .bptr _ _ _ _ _ _ (by simp [refsNew]) (by simp [refsNew]) (fun _ => by simp [refsNew])

theorem sAlloc_sound {T : TypeId} {key : Nat} (hI : Inv F w A X h) (hc : (sAlloc P key T h).c) :
    ∃ r w' A' X', (Instr.alloc T true (.tuple #[])).run P w = .ok r w' ∧ Later w A w' A' ∧ Xle X X' ∧ Inv F w' A' X' (sAlloc P key T h).h ∧ RV w' A' X' (sAlloc P key T h).v r := by
  simp only [sAlloc] at hc ⊢
  obtain ⟨h1, h2, h3⟩ := hc
  obtain ⟨i, zv, hi, hs, hz, hzc, hsz⟩ := zc_some h2 h1
  rw [hzc] at h3 h1 ⊢
  obtain ⟨A', X', g1, g2, g3, g4⟩ := new_row hI key _ zv.cells T true (ofVal1_cells h3) (fun _ j c u hj hu => by
    obtain ⟨x, hx, hp⟩ := ofVal1_pv (w := w) (A := A) hj
    have : u = x := by have hx' : zv.cells[j]? = some x := by simpa using hx
                       rw [hu] at hx'; exact Option.some.inj hx'
    rw [this]; exact hp)
  rw [h1] at g3
  have hr : (Instr.alloc T true (.tuple #[])).run P w = .ok (.pointer (some ⟨w.heap.size, 0, none⟩)) (w.alloc (.cells zv.cells T)) := by simp [Instr.alloc, zeroValue, typeInfo, hi, hz, newVar, newRow]
  exact ⟨_, _, A', X', hr, g1, g2, g3, g4⟩

omit [Gls] in
theorem cells_refFree {cs : List V} {us : Array Value} (hcs : CellsOK w A X cs us) (hall : cs.all V.refFree = true) {j : Nat} {c : V} {u : Value} (hj : cs[j]? = some c) (hu : us[j]? = some u) : PV w A c u := by
  obtain ⟨u', h1, _, h3⟩ := hcs.2 j c hj
  rw [hu] at h1; cases h1
  simp only [List.all_eq_true] at hall
  exact .of_refFree h3 (hall c (List.mem_of_getElem? hj))

theorem sBox_sound {T : TypeId} {key : Nat} {x : V} {u : Value} (hI : Inv F w A X h) (hx : RV w A X x u) (hc : (sBox P key T x h).c) :
    ∃ r w' A' X', (Instr.box T u).run P w = .ok r w' ∧ Later w A w' A' ∧ Xle X X' ∧ Inv F w' A' X' (sBox P key T x h).h ∧ RV w' A' X' (sBox P key T x h).v r := by
  simp only [sBox] at hc ⊢
  obtain ⟨h1, h2⟩ := hc
  have hcs := hx.cells h2
  obtain ⟨A', X', g1, g2, g3, g4⟩ := new_row hI key _ u.cells T (x.cells.all V.refFree) hcs (fun hall j c u hj hu => cells_refFree hcs hall hj hu)
  rw [h1] at g3
  have hr : (Instr.box T u).run P w = .ok (.pointer (some ⟨w.heap.size, 0, none⟩)) (w.alloc (.cells u.cells T)) := by simp [Instr.box, newVar, newRow]
  exact ⟨_, _, A', X', hr, g1, g2, g3, g4⟩

omit [Gls] in
/-- 'fill' over a row of cells. -/
theorem fills_sound {place : Nat → Option (Nat × Nat)} : ∀ (parts : List (Nat × V)) (us : List (Nat × Value)) (cells : List V) (cs : Array Value), parts.length = us.length →
    (∀ (i : Nat) (p : Nat × V) (u : Nat × Value), parts[i]? = some p → us[i]? = some u → p.1 = u.1 ∧ RV w A X p.2 u.2) → CellsOK w A X cells cs → (fills place cells parts).1 →
    ∃ cs', Instr.fill place cs us = some cs' ∧ CellsOK w A X (fills place cells parts).2 cs' ∧ (fills place cells parts).2.length = cells.length
  | [], [], cells, cs, _, _, hcs, _ => ⟨cs, rfl, hcs, rfl⟩
  | [], _ :: _, _, _, hl, _, _, _ => by simp at hl
  | _ :: _, [], _, _, hl, _, _, _ => by simp at hl
  | (i, v) :: parts, (i', u) :: us, cells, cs, hl, hp, hcs, hc => by
    have h0 := hp 0 (i, v) (i', u) rfl rfl
    simp only at h0
    obtain ⟨rfl, hv⟩ := h0
    simp only [fills] at hc ⊢
    cases hpl : place i with
    | none => simp [hpl] at hc
    | some os =>
      obtain ⟨off, size⟩ := os
      simp only [hpl] at hc ⊢
      obtain ⟨h1, h2, h3, h4⟩ := hc
      have hvc := hv.cells h3
      have hus : u.cells.size = size := by rw [hvc.1, h1]
      have hf := fold_set off u.cells cs (by rw [hus, hcs.1]; exact h2)
      have hcs' : CellsOK w A X (splice cells off v.cells) (u.cells.zipIdx.foldl (fun cs (p : Value × Nat) => match p with | (c, j) => cs.setIfInBounds (off + j) c) cs) := by
        refine ⟨by rw [hf.1, hcs.1, splice_length]; omega, fun j c hj => ?_⟩
        rw [splice_get _ _ _ _ (by omega)] at hj
        rw [hf.2 j]
        by_cases c1 : j < off
        · rw [if_pos c1] at hj; rw [if_neg (by omega)]; exact hcs.2 j c hj
        · rw [if_neg c1] at hj
          by_cases c2 : j < off + v.cells.length
          · rw [if_pos c2] at hj; rw [if_pos (by omega)]; exact hvc.2 _ c hj
          · rw [if_neg c2] at hj; rw [if_neg (by omega)]; exact hcs.2 j c hj
      obtain ⟨cs', g1, g2, g3⟩ := fills_sound parts us (splice cells off v.cells) _ (by simpa using hl) (fun k p q hk hq => hp (k + 1) p q (by simpa using hk) (by simpa using hq)) hcs' h4
      refine ⟨cs', ?_, g2, by rw [g3, splice_length]; omega⟩
      simp only [Instr.fill, hpl]
      rw [if_neg (by simp only [ne_eq, hus, not_true_eq_false, false_or, Bool.or_eq_true, decide_eq_true_eq]; rw [hcs.1]; omega)]
      exact g1

omit [Gls] in
theorem pairs_sound {ρ : Operand → V} {ρ' : Operand → Value} (parts : List (Nat × Operand)) (hρ : ∀ p ∈ parts, RV w A X (ρ p.2) (ρ' p.2)) :
    ∀ (i : Nat) (p : Nat × V) (u : Nat × Value), (parts.map fun p => (p.1, ρ p.2))[i]? = some p → (parts.map fun p => (p.1, ρ' p.2))[i]? = some u → p.1 = u.1 ∧ RV w A X p.2 u.2 := by
  intro i p u hp hu
  rw [List.getElem?_map] at hp hu
  cases hi : parts[i]? with
  | none => simp [hi] at hp
  | some q => simp [hi] at hp hu; subst hp hu; exact ⟨rfl, hρ q (List.mem_of_getElem? hi)⟩

omit [Gls] in
theorem CellsOK.agg {cs : List V} {us : Array Value} (hcs : CellsOK w A X cs us) : RV w A X (.agg cs) (.agg us) := by
  refine .agg cs us hcs.1 fun i c hi => ?_
  obtain ⟨u, h1, _, h3⟩ := hcs.2 i c hi
  rw [Array.getD_eq_getD_getElem?, h1]; exact h3

omit [Gls] in
theorem fill_congr {f g : Nat → Option (Nat × Nat)} : ∀ (l : List (Nat × Value)) (cs : Array Value), (∀ p ∈ l, f p.1 = g p.1) → Instr.fill f cs l = Instr.fill g cs l
  | [], _, _ => rfl
  | (i, v) :: l, cs, h => by
    have h0 := h (i, v) (by simp)
    simp only at h0
    simp only [Instr.fill, h0]
    cases g i with
    | none => rfl
    | some os =>
      obtain ⟨off, size⟩ := os
      simp only
      split
      · rfl
      · exact fill_congr l _ fun p hp => h p (List.mem_cons_of_mem _ hp)

omit [Gls] in
theorem fill_map (f : Nat → Option (Nat × Nat)) (places : Array (Nat × Nat)) (l : List (Nat × Value)) (cs : Array Value) (h : ∀ i os, f i = some os → places[i]? = some os) (hok : ∀ p ∈ l, (f p.1).isSome = true) :
    Instr.fill (fun i => places[i]?) cs l = Instr.fill f cs l := by
  refine fill_congr l cs fun p hp => ?_
  have := hok p hp
  cases hf : f p.1 with
  | none => simp [hf] at this
  | some os => exact h _ _ hf

omit [Gls] in
theorem fills_isSome {place : Nat → Option (Nat × Nat)} : ∀ (parts : List (Nat × V)) (cells : List V), (fills place cells parts).1 → ∀ p ∈ parts, (place p.1).isSome = true
  | [], _, _, p, hp => by simp at hp
  | (i, v) :: parts, cells, hc, p, hp => by
    simp only [fills] at hc
    cases hpl : place i with
    | none => simp [hpl] at hc
    | some os =>
      obtain ⟨off, size⟩ := os
      simp only [hpl] at hc
      rcases List.mem_cons.1 hp with rfl | hp
      · simp [hpl]
      · exact fills_isSome parts _ hc.2.2.2 p hp

omit [Gls] in
theorem run_places' (w : World) : ∀ (fs : List Field), (∀ f ∈ fs, 0 < P.cellsOf f.type) → (fs.mapM (fun f => do pure (f.offset, ← sizeOf f.type) : Field → Sem (Nat × Nat))).run P w = .ok (fs.map fun f => (f.offset, P.cellsOf f.type)) w
  | [], _ => by simp
  | f :: fs, h => by
    have h0 := h f (by simp)
    have ih := run_places' w fs fun g hg => h g (List.mem_cons_of_mem _ hg)
    simp only [List.mapM_cons, Sem.run_bind, run_sizeOf' h0, Result.andThen_ok, Sem.run_pure, ih, List.map_cons]

omit [Gls] in
theorem sBuild_sound {T : TypeId} {ρ : Operand → V} {ρ' : Operand → Value} (parts : Array (Nat × Operand)) (hρ : ∀ p ∈ parts.toList, RV w A X (ρ p.2) (ρ' p.2))
    (hc : (sBuild P T (parts.toList.map fun p => (p.1, ρ p.2)) h).c) :
    ∃ r, (Instr.build T (parts.map fun (i, x) => (i, ρ' x))).run P w = .ok r w ∧ RV w A X (sBuild P T (parts.toList.map fun p => (p.1, ρ p.2)) h).v r := by
  unfold sBuild at hc ⊢
  have hpt : (parts.map fun (i, x) => (i, ρ' x)).toList = parts.toList.map fun p => (p.1, ρ' p.2) := by simp
  split at hc
  · rename_i _ hst
    obtain ⟨fs, hu⟩ : ∃ fs, P.underlying T = some (.struct fs) := by unfold isSt at hst; split at hst <;> simp_all
    simp only at hc ⊢
    obtain ⟨h1, h2, hall, hfl, hcs⟩ := hc
    obtain ⟨i, zv, hi, hs, hz, hzc, hsz⟩ := zc_some h2 h1
    have hfs : ∀ f ∈ fs.toList, 0 < P.cellsOf f.type := by
      simp only [fldsOk, hu, List.all_eq_true, decide_eq_true_eq] at hfl; exact hfl
    have hz0 : CellsOK w A X (zc P T) zv.cells := by rw [hzc]; exact ofVal1_cells (by rw [← hzc]; exact hall)
    obtain ⟨cs', g1, g2, g3⟩ := fills_sound (w := w) (A := A) (X := X) _ _ _ _ (by simp) (pairs_sound (w := w) (A := A) (X := X) parts.toList hρ) hz0 hcs
    have g1' : Instr.fill (fun x => (fs.map fun f => (f.offset, P.cellsOf f.type))[x]?) zv.cells (parts.toList.map fun p => (p.1, ρ' p.2)) = some cs' := by
      rw [← g1]
      refine fill_map _ _ _ _ (fun k os hk => ?_) (fun p hp => ?_)
      · cases hf : fld P T k with
        | none => simp [hf] at hk
        | some oft =>
          obtain ⟨o, ft⟩ := oft
          simp [hf] at hk; subst hk
          obtain ⟨fs', fd, hu', hfd, rfl, rfl⟩ := fld_some hf
          rw [hu] at hu'; cases hu'
          simp [hfd]
      · obtain ⟨q, hq, rfl⟩ := List.mem_map.1 hp
        have := fills_isSome _ _ hcs (q.1, ρ q.2) (List.mem_map.2 ⟨q, hq, rfl⟩)
        simpa using this
    refine ⟨.agg cs', ?_, g2.agg⟩
    have hpl := run_places' (P := P) w fs.toList hfs
    have hpl2 : (fs.mapM (fun f => do pure (f.offset, ← sizeOf f.type) : Field → Sem (Nat × Nat))).run P w = .ok (fs.map fun f => (f.offset, P.cellsOf f.type)) w := by
      have hmm : (fs.mapM (fun f => do pure (f.offset, ← sizeOf f.type) : Field → Sem (Nat × Nat))) = Functor.map List.toArray (fs.toList.mapM (fun f => do pure (f.offset, ← sizeOf f.type) : Field → Sem (Nat × Nat))) := Array.mapM_eq_mapM_toList
      rw [hmm]
      refine (Sem.run_map P w _ _).trans ?_
      rw [hpl]
      refine congrArg (fun x => Result.ok x w) ?_
      rw [← Array.toList_map]
    have hz' : (zeroValue T).run P w = .ok zv w := by simp [zeroValue, typeInfo, hi, hz]
    unfold Instr.build
    simp only [Sem.run_bind, hz', Result.andThen_ok, run_underlying hu, hpl2, hpt, g1', Sem.run_pure]
  · rename_i n e _ har
    have hu := arEl_some har
    simp only at hc ⊢
    obtain ⟨h1, h2, hall, h0, hcs⟩ := hc
    obtain ⟨i, zv, hi, hs, hz, hzc, hsz⟩ := zc_some h2 h1
    have hz0 : CellsOK w A X (zc P T) zv.cells := by rw [hzc]; exact ofVal1_cells (by rw [← hzc]; exact hall)
    obtain ⟨cs', g1, g2, g3⟩ := fills_sound (w := w) (A := A) (X := X) _ _ _ _ (by simp) (pairs_sound (w := w) (A := A) (X := X) parts.toList hρ) hz0 hcs
    refine ⟨.agg cs', ?_, g2.agg⟩
    have hz' : (zeroValue T).run P w = .ok zv w := by simp [zeroValue, typeInfo, hi, hz]
    unfold Instr.build
    simp only [Sem.run_bind, hz', Result.andThen_ok, run_underlying hu, run_sizeOf' h0, hpt, g1, Sem.run_pure]
  · exact hc.elim

/-- Rows laid flat. -/
def FlatOK (w : World) (A : Nat → Prop) (X : Refs) (z : Nat) (rows : List (List V)) (arr : Array Value) : Prop :=
  arr.size = rows.length * z ∧ (∀ row ∈ rows, row.length = z) ∧ ∀ (e j : Nat) (row : List V) (c : V), rows[e]? = some row → row[j]? = some c → ∃ u, arr[e * z + j]? = some u ∧ u.oneCell' = true ∧ RV w A X c u

omit [Gls] in
theorem fillRows_sound {z : Nat} (hz0 : 0 < z) : ∀ (parts : List (Nat × V)) (us : List (Nat × Value)) (rows : List (List V)) (cs : Array Value), parts.length = us.length →
    (∀ (i : Nat) (p : Nat × V) (u : Nat × Value), parts[i]? = some p → us[i]? = some u → p.1 = u.1 ∧ RV w A X p.2 u.2) → FlatOK w A X z rows cs → (fillRows z rows parts).1 →
    ∃ cs', Instr.fill (fun i => some (i * z, z)) cs us = some cs' ∧ FlatOK w A X z (fillRows z rows parts).2 cs' ∧ (fillRows z rows parts).2.length = rows.length
  | [], [], rows, cs, _, _, hcs, _ => ⟨cs, rfl, hcs, rfl⟩
  | [], _ :: _, _, _, hl, _, _, _ => by simp at hl
  | _ :: _, [], _, _, hl, _, _, _ => by simp at hl
  | (i, v) :: parts, (i', u) :: us, rows, cs, hl, hp, hcs, hc => by
    have h0 := hp 0 (i, v) (i', u) rfl rfl
    simp only at h0
    obtain ⟨rfl, hv⟩ := h0
    simp only [fillRows] at hc ⊢
    obtain ⟨h1, h2, h3, h4⟩ := hc
    have hvc := hv.cells h3
    have hus : u.cells.size = z := by rw [hvc.1, h1]
    have hfit : i * z + z ≤ cs.size := by
      rw [hcs.1]
      have : (i + 1) * z ≤ rows.length * z := Nat.mul_le_mul_right _ h2
      rw [Nat.add_mul] at this; omega
    have hf := fold_set (i * z) u.cells cs (by rw [hus]; exact hfit)
    have hcs' : FlatOK w A X z (rows.set i v.cells) (u.cells.zipIdx.foldl (fun cs (p : Value × Nat) => match p with | (c, j) => cs.setIfInBounds (i * z + j) c) cs) := by
      refine ⟨by rw [hf.1, hcs.1, List.length_set], fun row hr => ?_, fun e j row c he hj => ?_⟩
      · rcases List.mem_or_eq_of_mem_set hr with hr | rfl
        · exact hcs.2.1 row hr
        · exact h1
      · rw [hf.2]
        by_cases hei : e = i
        · subst hei
          rw [List.getElem?_set_self h2] at he
          obtain rfl := Option.some.inj he
          have hjl : j < v.cells.length := (List.getElem?_eq_some_iff.1 hj).1
          rw [if_pos (by omega), show e * z + j - e * z = j by omega]
          exact hvc.2 j c hj
        · rw [List.getElem?_set_ne (fun hh => hei hh.symm)] at he
          have hjl : j < z := by rw [← hcs.2.1 row (List.mem_of_getElem? he)]; exact (List.getElem?_eq_some_iff.1 hj).1
          have := flat_lt (j := 0) (m := z) hei (by omega) hjl
          rw [if_neg (by omega)]
          exact hcs.2.2 e j row c he hj
    obtain ⟨cs', g1, g2, g3⟩ := fillRows_sound hz0 parts us (rows.set i v.cells) _ (by simpa using hl) (fun k p q hk hq => hp (k + 1) p q (by simpa using hk) (by simpa using hq)) hcs' h4
    refine ⟨cs', ?_, g2, by rw [g3, List.length_set]⟩
    simp only [Instr.fill]
    rw [if_neg (by simp only [ne_eq, hus, not_true_eq_false, false_or, Bool.or_eq_true, decide_eq_true_eq]; omega)]
    exact g1

omit [Gls] in
theorem zrow_get {zs : Array Value} {n e j : Nat} (he : e < n) (hj : j < zs.size) : ((Array.range (n * zs.size)).map (zs[· % zs.size]!))[e * zs.size + j]? = zs[j]? := by
  have hlt := idx_lt he hj
  simp only [Array.getElem?_map, Array.getElem?_range, hlt, if_true, Option.map_some]
  have hm : (e * zs.size + j) % zs.size = j := by
    rw [Nat.mul_comm, Nat.mul_add_mod]; exact Nat.mod_eq_of_lt hj
  rw [hm, Array.getElem?_eq_getElem hj, getElem!_pos zs j hj]

omit [Gls] in
theorem FlatOK.zeros {zs : Array Value} (hall : (zs.toList.map ofVal1).all V.cell1 = true) (n : Nat) : FlatOK w A X zs.size (List.replicate n (zs.toList.map ofVal1)) ((Array.range (n * zs.size)).map (zs[· % zs.size]!)) := by
  refine ⟨by simp, fun row hr => by rw [List.eq_of_mem_replicate hr]; simp, fun e j row c he hj => ?_⟩
  have hlt : e < n := by have := (List.getElem?_eq_some_iff.1 he).1; simpa using this
  have hrow : row = zs.toList.map ofVal1 := List.eq_of_mem_replicate (List.mem_of_getElem? he)
  subst hrow
  have hjl : j < zs.size := by have := (List.getElem?_eq_some_iff.1 hj).1; simpa using this
  rw [zrow_get hlt hjl]
  exact (ofVal1_cells (w := w) (A := A) (X := X) hall).2 j c hj

end
end Go.Sx
end
section
/- The soundness of literals of slices, make, append and slicing. No conditions. -/
namespace Go.Sx
open Go.RowKit
variable [Gls]

section
variable {F : Fr} {w : World} {A : Nat → Prop} {X : Refs} {h : Hp} {P : Program}

/-- A new block that nobody will write. -/
theorem Inv.ext (hI : Inv F w A X h) (o : Obj) : Later w A (w.alloc o) A ∧ Inv F (w.alloc o) A X h := by
  have hL : Later w A (w.alloc o) A := ⟨by simp, fun b hb hA => ⟨Below.heap_alloc w o b hb, hA⟩⟩
  refine ⟨hL, { gl := hI.gl.mono hL, abd := ?_, aold := hI.aold, akeep := hI.akeep, os := hI.os, tape := hI.tape, output := hI.output, size := ?_, same := ?_, xle := hI.xle, nb := hI.nb, blk := ?_, inj := hI.inj }⟩
  · intro b hA; have := hI.abd b hA; simp; omega
  · have := hI.size; simp; omega
  · intro b hb hM; have := hI.size; rw [Below.heap_alloc w o b (by omega)]; exact hI.same b hb hM
  intro s i B hB
  have ho := hI.blk s i B hB
  refine { hN := ho.hN, hz := ho.hz, hlen := ho.hlen, rows := ho.rows, mem := ?_ }
  rcases ho.mem with hm | ⟨arr, cap, h1, h2, h3, h4, h5, h6, h7, h8⟩
  · exact .inl hm
  · have hlt : (X.D s i).b < w.heap.size := (Array.getElem?_eq_some_iff.1 h1).1
    refine .inr ⟨arr, cap, by rw [Below.heap_alloc w o _ hlt]; exact h1, h2, h3, h4, h5, ?_, h7, h8⟩
    intro e j row c he hj
    obtain ⟨u, g1, g2, g3, g4⟩ := h6 e j row c he hj
    exact ⟨u, g1, g2, g3.mono hL (Xle.refl X), fun hcl => (g4 hcl).mono hL⟩

theorem sBuildSlice_sound {own : Bool} {key : Nat} {T : TypeId} {n : Nat} {ρ : Operand → V} {ρ' : Operand → Value} (parts : Array (Nat × Operand)) (hI : Inv F w A X h) (hρ : ∀ p ∈ parts.toList, RV w A X (ρ p.2) (ρ' p.2))
    (hc : (sBuildSlice P own key T n (parts.toList.map fun p => (p.1, ρ p.2)) h).c) :
    ∃ r w' A' X', (Instr.buildSlice T n (parts.map fun (i, x) => (i, ρ' x))).run P w = .ok r w' ∧ Later w A w' A' ∧ Xle X X' ∧ Inv F w' A' X' (sBuildSlice P own key T n (parts.toList.map fun p => (p.1, ρ p.2)) h).h ∧
      RV w' A' X' (sBuildSlice P own key T n (parts.toList.map fun p => (p.1, ρ p.2)) h).v r := by
  unfold sBuildSlice at hc ⊢
  have hpt : (parts.map fun (i, x) => (i, ρ' x)).toList = parts.toList.map fun p => (p.1, ρ' p.2) := by simp
  cases hsl : slEl P T with
  | none => simp [hsl, bad] at hc
  | some e =>
    simp only [hsl] at hc ⊢
    have hu := slEl_some hsl
    have core : (zc P e).length = P.cellsOf e ∧ 0 < P.cellsOf e ∧ n * P.cellsOf e ≤ 1048576 ∧ (zc P e).all V.cell1 = true ∧ (fillRows (P.cellsOf e) (List.replicate n (zc P e)) (parts.toList.map fun p => (p.1, ρ p.2))).1 := by
      cases own <;> simp at hc
      · exact ⟨hc.1.1, hc.1.2.1, hc.1.2.2.1, by simpa using hc.1.2.2.2.1, hc.1.2.2.2.2⟩
      · exact ⟨hc.1, hc.2.1, hc.2.2.1, by simpa using hc.2.2.2.1, hc.2.2.2.2⟩
    obtain ⟨h1, h2, h3, h4, h5⟩ := core
    obtain ⟨i, zv, hi, hs, hz, hzc, hsz⟩ := zc_some h2 h1
    have hflat := FlatOK.zeros (w := w) (A := A) (X := X) (zs := zv.cells) (by rw [← hzc]; exact h4) n
    rw [← hzc, hsz] at hflat
    obtain ⟨cs', g1, g2, g3⟩ := fillRows_sound (w := w) (A := A) (X := X) h2 _ _ _ _ (by simp) (pairs_sound (w := w) (A := A) (X := X) parts.toList hρ) hflat h5
    generalize hrows : (fillRows (P.cellsOf e) (List.replicate n (zc P e)) (parts.toList.map fun p => (p.1, ρ p.2))).2 = rows at *
    have hlen : rows.length = n := by rw [g3]; simp
    have hr : (Instr.buildSlice T n (parts.map fun (i, x) => (i, ρ' x))).run P w = .ok (.slice (some ⟨w.heap.size, 0, none⟩) n n) (w.alloc (.cells cs' e)) := by
      have hz' : (zeroValue e).run P w = .ok zv w := by simp [zeroValue, typeInfo, hi, hz]
      have hbig : ¬ n * P.cellsOf e > 2 ^ 24 := by omega
      unfold Instr.buildSlice
      simp only [Sem.run_bind, run_underlying hu, Result.andThen_ok, run_sizeOf' h2]
      by_cases hn : n * P.cellsOf e = 0
      · have hn0 : n = 0 := by rcases Nat.mul_eq_zero.1 hn with h | h <;> omega
        have e0 : ∀ f : Nat → Value, (Array.range (n * P.cellsOf e)).map f = #[] := by intro f; rw [hn]; simp [Array.range_zero']
        have g1' : Instr.fill (fun i => some (i * P.cellsOf e, P.cellsOf e)) #[] (parts.toList.map fun p => (p.1, ρ' p.2)) = some cs' := by rw [← g1, e0]
        simp only [hn, if_true, Sem.run_bind, Sem.run_pure, Result.andThen_ok]
        have e1 : ∀ f : Nat → Value, (Array.range 0).map f = #[] := fun f => by simp [Array.range_zero']
        simp only [e1, hpt, g1']
        simp [newRow]
      · simp only [hn, if_false, hbig, Sem.run_bind, hz', Result.andThen_ok, Sem.run_pure, hpt, hsz, g1]
        simp [newRow]
    cases own
    · simp only [Bool.false_eq_true, if_false] at hc ⊢
      obtain ⟨hL, hI'⟩ := hI.ext (.cells cs' e)
      have hnA : ¬ A w.heap.size := fun hA => by have := hI.abd _ hA; omega
      refine ⟨_, _, A, X, hr, hL, Xle.refl X, hI', .pure ?_⟩
      have hrf : ∀ row ∈ rows, ∀ c ∈ row, V.refFree c = true := by
        have := hc.2
        simpa [List.all_eq_true] using this
      have := PV.sl (w := w.alloc (.cells cs' e)) (A := A) (P.cellsOf e) rows w.heap.size 0 n (fun e1 j => (cs'[e1 * P.cellsOf e + j]?).getD und) (by omega) (by simp) hnA g2.2.1
        (fun e1 j row c he hj => by
          obtain ⟨u, k1, k2, _⟩ := g2.2.2 e1 j row c he hj
          rw [Nat.zero_add, World.cell?_alloc_new, k1]; exact ⟨rfl, k2⟩)
        (fun e1 j row c he hj => by
          obtain ⟨u, k1, k2, k3⟩ := g2.2.2 e1 j row c he hj
          simp only [k1, Option.getD_some]
          exact PV.mono hL (.of_refFree k3 (hrf row (List.mem_of_getElem? he) c (List.mem_of_getElem? hj))))
      rw [hlen] at this
      exact this
    · simp only [if_true] at hc ⊢
      have hI' := hI.alloc key { z := P.cellsOf e, els := rows, ty := e, cl := rows.all fun row => row.all V.refFree } cs' n rfl (by simp [hlen]) (by simp only [maxLen]; have := Nat.le_mul_of_pos_right n h2; omega) g2.2.1 (by rw [g2.1, hlen])
        (fun e1 j row c he hj => by
          obtain ⟨u, k1, k2, k3⟩ := g2.2.2 e1 j row c he hj
          refine ⟨u, k1, k2, k3, fun hcl => ?_⟩
          simp only [List.all_eq_true] at hcl
          exact .of_refFree k3 (hcl row (List.mem_of_getElem? he) c (List.mem_of_getElem? hj)))
      refine ⟨_, _, _, _, hr, hI.later_alloc _, hI.xle_new key _ n, hI', ?_⟩
      exact .bsl _ _ _ _ _ (by simp [refsNew]) (by simp [refsNew, hlen]) (fun _ => by simp [refsNew, hlen])

theorem sBuildE_sound {T : TypeId} {n : Nat} {ρ : Operand → V} {ρ' : Operand → Value} (parts : Array (Nat × Operand)) (hI : Inv F w A X h)
    (hc : (sBuildE P T n (parts.toList.map fun p => (p.1, ρ p.2)) h).c) :
    ∃ r w' A' X', (Instr.buildSlice T n (parts.map fun (i, x) => (i, ρ' x))).run P w = .ok r w' ∧ Later w A w' A' ∧ Xle X X' ∧ Inv F w' A' X' (sBuildE P T n (parts.toList.map fun p => (p.1, ρ p.2)) h).h ∧
      RV w' A' X' (sBuildE P T n (parts.toList.map fun p => (p.1, ρ p.2)) h).v r := by
  unfold sBuildE at hc ⊢
  split at hc
  · rename_i _ e hsl hq
    have hp : parts = #[] := by
      have : parts.toList = [] := by simpa using hq
      exact Array.toList_eq_nil_iff.1 this
    subst hp
    simp only [hsl, List.map_nil] at hc ⊢
    have hu := slEl_some hsl
    obtain ⟨h2, h1⟩ := hc
    have hr : (Instr.buildSlice T 0 ((#[] : Array (Nat × Operand)).map fun (i, x) => (i, ρ' x))).run P w = .ok (.slice (some ⟨w.heap.size, 0, none⟩) 0 0) (w.alloc (.cells #[] e)) := by
      unfold Instr.buildSlice
      simp [Sem.run_bind, run_underlying hu, run_sizeOf' h2, Instr.fill, newRow, Array.range_zero']
    obtain ⟨hL, hI'⟩ := hI.ext (.cells #[] e)
    exact ⟨_, _, A, X, hr, hL, Xle.refl X, hI', .pure (.emp _)⟩
  · exact hc.elim

theorem sMakeSlice_sound {own : Bool} {key : Nat} {T : TypeId} {l c : V} {ul uc : Value} (hI : Inv F w A X h) (hl : RV w A X l ul) (hcv : RV w A X c uc) (hc : (sMakeSlice P own key T l c h).c) :
    ∃ r w' A' X', (Instr.makeSlice T ul uc).run P w = .ok r w' ∧ Later w A w' A' ∧ Xle X X' ∧ Inv F w' A' X' (sMakeSlice P own key T l c h).h ∧ RV w' A' X' (sMakeSlice P own key T l c h).v r := by
  unfold sMakeSlice at hc ⊢
  split at hc
  · rename_i e k n k' m hsl
    have hu := slEl_some hsl
    rw [hl.int_inv, hcv.int_inv]
    have core : 0 ≤ n ∧ n ≤ m ∧ (zc P e).length = P.cellsOf e ∧ 0 < P.cellsOf e ∧ (zc P e).all V.cell1 = true ∧ m * P.bytesOf e ≤ 140737488355328 ∧ m ≤ 9223372036854775807 := by
      cases own <;> simp only [Bool.false_eq_true, if_false, if_true] at hc <;> exact hc
    obtain ⟨c1, c2, c3, c4, c5, c6, c7⟩ := core
    obtain ⟨i, zv, hi, hs, hz, hzc, hsz⟩ := zc_some c4 c3
    have hby : P.bytesOf e = i.bytes := by simp [Program.bytesOf, hi]
    have hr := run_make (P := P) w T e i zv hu hi hz k k' n m c1 c2 (by rw [hby] at c6; rw [Int.mul_comm]; omega) c7
    rw [hs] at hr
    have hmade : ∀ q, q ≤ m.toNat → ∀ (e1 j : Nat) (row : List V) (c : V), (List.replicate q (zc P e))[e1]? = some row → row[j]? = some c → ∃ u, (madeCells zv.cells (m.toNat * P.cellsOf e))[e1 * P.cellsOf e + j]? = some u ∧ u.oneCell' = true ∧ RV w A X c u ∧ (true = true → PV w A c u) := by
      intro q hq e1 j row c he hj
      have hlt : e1 < q := by have := (List.getElem?_eq_some_iff.1 he).1; simpa using this
      have hrow : row = zc P e := List.eq_of_mem_replicate (List.mem_of_getElem? he)
      subst hrow
      have hjl : j < zv.cells.size := by have := (List.getElem?_eq_some_iff.1 hj).1; omega
      have hg : (madeCells zv.cells (m.toNat * P.cellsOf e))[e1 * P.cellsOf e + j]? = zv.cells[j]? := by
        unfold madeCells; rw [← hsz]; exact zrow_get (by omega) hjl
      rw [hg]
      have hok := ofVal1_cells (w := w) (A := A) (X := X) (zs := zv.cells) (by rw [← hzc]; exact c5)
      rw [← hzc] at hok
      obtain ⟨u, k1, k2, k3⟩ := hok.2 j c hj
      refine ⟨u, k1, k2, k3, fun _ => ?_⟩
      rw [hzc] at hj
      obtain ⟨x, hx, hp⟩ := ofVal1_pv (w := w) (A := A) hj
      have hx' : zv.cells[j]? = some x := by simpa using hx
      rw [k1] at hx'; cases hx'; exact hp
    have hrep : ∀ q, ∀ row ∈ List.replicate q (zc P e), row.length = P.cellsOf e := fun q row hr => by rw [List.eq_of_mem_replicate hr]; exact c3
    have hmx : m.toNat ≤ maxLen := by simp only [maxLen]; omega
    cases own
    · simp only [Bool.false_eq_true, if_false] at hc ⊢
      have hI' := hI.alloc key { z := P.cellsOf e, els := List.replicate n.toNat (zc P e), ty := e } (madeCells zv.cells (m.toNat * P.cellsOf e)) m.toNat rfl (by simp; omega) hmx (hrep _) (size_madeCells _ _) (hmade n.toNat (by omega))
      refine ⟨_, _, _, _, hr, hI.later_alloc _, hI.xle_new key _ _, hI', ?_⟩
      exact .bsl _ _ _ _ _ (by simp [refsNew]) (by simp [refsNew]) (fun _ => by simp [refsNew, Hd.cap])
    · simp only [if_true] at hc ⊢
      have hI' := hI.alloc key { z := P.cellsOf e, els := List.replicate m.toNat (zc P e), ty := e } (madeCells zv.cells (m.toNat * P.cellsOf e)) m.toNat rfl (by simp) hmx (hrep _) (size_madeCells _ _) (hmade m.toNat (Nat.le_refl _))
      refine ⟨_, _, _, _, hr, hI.later_alloc _, hI.xle_new key _ _, hI', ?_⟩
      exact .osl _ _ _ _ _ _ _ _ (Nat.le_refl _) (by simp [refsNew]) (by simp [refsNew]) (fun _ => by simp [refsNew, Hd.cap])
  · exact hc.elim

omit [Gls] in
/-- The source of an append, out of its cells. -/
theorem Src.of_cells {z n : Nat} (hz : 0 < z) {b off c : Nat} {els : List (List V)} {cl : Bool} (hn : els.length = n) (hrows : ∀ row ∈ els, row.length = z)
    (hc : ∀ (e j : Nat) (row : List V) (x : V), els[e]? = some row → row[j]? = some x → ∃ u, w.cell? ⟨b, off + e * z + j, none⟩ = some u ∧ u.oneCell' = true ∧ RV w A X x u ∧ (cl = true → PV w A x u)) :
    ∃ news, Src P w A X z (.slice (some ⟨b, off, none⟩) n c) els cl news := by
  subst hn
  have hget : ∀ k, k < els.length * z → ∃ row x, els[k / z]? = some row ∧ row[k % z]? = some x := by
    intro k hk
    have h1 : k / z < els.length := (Nat.div_lt_iff_lt_mul hz).2 hk
    have h2 : (els[k / z]).length = z := hrows _ (List.getElem_mem h1)
    have h3 : k % z < (els[k / z]).length := by rw [h2]; exact Nat.mod_lt _ hz
    exact ⟨_, _, List.getElem?_eq_getElem h1, List.getElem?_eq_getElem h3⟩
  have hdm : ∀ k, off + k / z * z + k % z = off + k := fun k => by rw [Nat.add_assoc, Nat.mul_comm]; rw [Nat.div_add_mod]
  let f : Nat → Value := fun k => (w.cell? ⟨b, off + k, none⟩).getD und
  have hf : ∀ k, k < els.length * z → w.cell? ⟨b, off + k, none⟩ = some (f k) ∧ (f k).oneCell' = true := by
    intro k hk
    obtain ⟨row, x, h1, h2⟩ := hget k hk
    obtain ⟨u, g1, g2, _⟩ := hc _ _ _ _ h1 h2
    rw [hdm] at g1
    simp only [f, g1, Option.getD_some]; exact ⟨trivial, g2⟩
  refine ⟨(List.range (els.length * z)).map f, { shape := ⟨_, _, rfl⟩, run := ?_, run' := ?_, rows := hrows, len := by simp, cells := ?_, one := ?_ }⟩
  · simp only [Builtin.firstCells]
    exact run_loadCells w _ _ f fun j hj => by rw [addr_add]; exact (hf j hj).1
  · simp only [Builtin.firstCells]
    exact run_loadCells w.drew _ _ f fun j hj => by rw [addr_add]; exact (hf j hj).1
  · intro e j row x he hj
    have hj' : j < z := by rw [← hrows row (List.mem_of_getElem? he)]; exact (List.getElem?_eq_some_iff.1 hj).1
    have hk := idx_lt (List.getElem?_eq_some_iff.1 he).1 hj'
    obtain ⟨u, g1, g2, g3, g4⟩ := hc e j row x he hj
    refine ⟨u, ?_, g3, g4⟩
    rw [List.getElem?_map, List.getElem?_range hk]
    simp only [Option.map_some, f]
    rw [← Nat.add_assoc, g1]; rfl
  · intro u hu
    obtain ⟨k, hk, rfl⟩ := List.mem_map.1 hu
    exact (hf k (List.mem_range.1 hk)).2

omit [Gls] in
theorem Src.empty {z : Nat} (a : Option Addr) (c : Nat) (cl : Bool) : Src P w A X z (.slice a 0 c) [] cl [] := by
  refine { shape := ⟨a, c, rfl⟩, run := ?_, run' := ?_, rows := by simp, len := by simp, cells := by intro e j row c he; simp at he, one := by simp }
  · cases a <;> simp [Builtin.firstCells, loadCells, loadCellsFrom]
  · cases a <;> simp [Builtin.firstCells, loadCells, loadCellsFrom]

end
end Go.Sx
end
