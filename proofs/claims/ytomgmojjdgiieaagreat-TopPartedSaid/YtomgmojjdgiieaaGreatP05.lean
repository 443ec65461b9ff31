/- The operations' soundness, one by one. No conditions. -/
import Derived.Test.YtomgmojjdgiieaaGreatP04
set_option linter.unusedSimpArgs false
set_option linter.unusedVariables false
set_option linter.unusedSectionVars false
namespace Go.Sx
open Go.RowKit
variable [Gls]
omit [Gls] in
theorem slEl_some {P : Program} {T e : TypeId} (h : slEl P T = some e) : P.underlying T = some (.slice e) := by
  unfold slEl at h; split at h <;> simp_all
omit [Gls] in
theorem arEl_some {P : Program} {T e : TypeId} {n : Nat} (h : arEl P T = some (n, e)) : P.underlying T = some (.array n e) := by
  unfold arEl at h; split at h <;> simp_all
omit [Gls] in
theorem fld_some {P : Program} {S : TypeId} {f o : Nat} {ft : TypeId} (h : fld P S f = some (o, ft)) : ∃ fs x, P.underlying S = some (.struct fs) ∧ fs[f]? = some x ∧ x.offset = o ∧ x.type = ft := by
  unfold fld at h
  split at h
  · rename_i fs hu
    cases hf : fs[f]? with
    | none => simp [hf] at h
    | some x => simp [hf] at h; exact ⟨fs, x, hu, hf, h.1, h.2⟩
  · simp at h
omit [Gls] in
theorem info_of_cells {P : Program} {T : TypeId} (h : 0 < P.cellsOf T) : ∃ i, P.info? T = some i ∧ i.size = P.cellsOf T := by
  unfold Program.cellsOf at h ⊢
  cases hi : P.info? T with
  | none => simp [hi] at h
  | some i => exact ⟨i, rfl, rfl⟩
omit [Gls] in
theorem run_sizeOf' {P : Program} {T : TypeId} (h : 0 < P.cellsOf T) (w : World) : (sizeOf T).run P w = .ok (P.cellsOf T) w := by
  obtain ⟨i, hi, hs⟩ := info_of_cells h
  simp [sizeOf, typeInfo, hi, hs]
omit [Gls] in
theorem zc_some {P : Program} {T : TypeId} (h0 : 0 < P.cellsOf T) (hl : (zc P T).length = P.cellsOf T) : ∃ i zv, P.info? T = some i ∧ i.size = P.cellsOf T ∧ i.zero = some zv ∧ zc P T = zv.cells.toList.map ofVal1 ∧ zv.cells.size = P.cellsOf T := by
  obtain ⟨i, hi, hs⟩ := info_of_cells h0
  have hz : zc P T = match i.zero with | some z => z.cells.toList.map ofVal1 | none => [] := by unfold zc; rw [hi]; rfl
  cases hzz : i.zero with
  | none => rw [hzz] at hz; simp only at hz; rw [hz] at hl; simp at hl; omega
  | some zv =>
    rw [hzz] at hz; simp only at hz
    refine ⟨i, zv, hi, hs, hzz, hz, ?_⟩
    rw [hz] at hl; simpa using hl
omit [Gls] in
theorem run_isAgg {P : Program} {T : TypeId} (h : tyOk P T = true) (w : World) : (isAgg T).run P w = .ok (isAg P T) w := by
  unfold tyOk at h
  cases hu : P.underlying T with
  | none => simp [hu] at h
  | some d =>
    simp only [isAgg, isAg, Sem.run_bind, run_underlying hu, Result.andThen_ok, hu]
    cases d <;> rfl
omit [Gls] in
theorem pv_ofVal1 (w : World) (A : Nat → Prop) (v : Value) : PV w A (ofVal1 v) v := by
  unfold ofVal1
  split
  · exact .int _ _
  · exact .bool _
  · exact .nil
  · exact .nilp
  · exact .nilf
  · exact .nilm
  · exact .top _
omit [Gls] in
theorem pv_ofVal (w : World) (A : Nat → Prop) (v : Value) : PV w A (ofVal v) v := by
  unfold ofVal
  split
  · rename_i cs
    refine .agg _ _ (by simp) fun i c hc => ?_
    rw [List.getElem?_map] at hc
    cases hi : cs.toList[i]? with
    | none => simp [hi] at hc
    | some x =>
      simp [hi] at hc; subst hc
      have : cs.getD i und = x := by rw [Array.getD_eq_getD_getElem?, ← Array.getElem?_toList, hi]; rfl
      rw [this]; exact pv_ofVal1 w A x
  · exact pv_ofVal1 w A _
section
variable {F : Fr} {w : World} {A : Nat → Prop} {X : Refs} {h : Hp} {P : Program}
def RowAt (w : World) (A : Nat → Prop) (X : Refs) (a : Addr) (row : List V) : Prop :=
  ∃ us : Nat → Value, ∀ k c, row[k]? = some c → w.cell? (a.add k) = some (us k) ∧ RV w A X c (us k)
omit [Gls] in
theorem load_row {T : TypeId} {a : Addr} {row : List V} {j : Nat} (hr : RowAt w A X a (row.drop j)) (hlen : j + P.cellsOf T ≤ row.length) (h1 : isAg P T = false → P.cellsOf T = 1) (hT : tyOk P T = true) (h0 : 0 < P.cellsOf T) :
    ∃ r, (loadVar T a).run P w = .ok r w ∧ RV w A X (loadR P T row j) r := by
  obtain ⟨us, hus⟩ := hr
  have hget : ∀ k, k < P.cellsOf T → ∃ c, (row.drop j)[k]? = some c := fun k hk => ⟨_, List.getElem?_eq_getElem (by rw [List.length_drop]; omega)⟩
  cases hag : isAg P T with
  | true =>
    have hl := run_loadCells (P := P) w a (P.cellsOf T) us (fun k hk => by obtain ⟨c, hc⟩ := hget k hk; exact (hus k c hc).1)
    refine ⟨.agg ((List.range (P.cellsOf T)).map us).toArray, by simp [loadVar, run_isAgg hT, hag, run_sizeOf' h0, hl], ?_⟩
    simp only [loadR, hag, if_true]
    refine .agg _ _ (by simp; omega) fun k c hc => ?_
    have hk : k < P.cellsOf T := by have := (List.getElem?_eq_some_iff.1 hc).1; rw [List.length_take] at this; omega
    rw [List.getElem?_take_of_lt hk] at hc
    have : (((List.range (P.cellsOf T)).map us).toArray).getD k und = us k := by simp [Array.getD_eq_getD_getElem?, hk]
    rw [this]; exact (hus k c hc).2
  | false =>
    have hone := h1 hag
    obtain ⟨c, hc⟩ := hget 0 h0
    have h2 := hus 0 c hc
    have ha : a.add 0 = a := by simp [Addr.add]
    rw [ha] at h2
    refine ⟨us 0, by simp [loadVar, run_isAgg hT, hag, h2.1], ?_⟩
    simp only [loadR, hag]
    have : row.getD j .top = c := by rw [List.getElem?_drop, Nat.add_zero] at hc; simp [List.getD, hc]
    simp only [Bool.false_eq_true, if_false, this]; exact h2.2
omit [Gls] in
theorem rowAt_block {b o z e j : Nat} {els : List (List V)} (hc : ∀ k c, (els.getD e [])[k]? = some c → ∃ u, w.cell? ⟨b, o + e * z + k, none⟩ = some u ∧ RV w A X c u) :
    RowAt w A X ⟨b, o + e * z + j, none⟩ ((els.getD e []).drop j) := by
  refine ⟨fun k => (w.cell? ⟨b, o + e * z + (j + k), none⟩).getD und, fun k c hk => ?_⟩
  rw [List.getElem?_drop] at hk
  obtain ⟨u, h1, h2⟩ := hc (j + k) c hk
  rw [addr_add, show o + e * z + j + k = o + e * z + (j + k) by omega]
  simp only [h1, Option.getD_some]
  exact ⟨trivial, h2⟩
omit [Gls] in
theorem getD_get {els : List (List V)} {e : Nat} (he : e < els.length) : els[e]? = some (els.getD e []) := by
  simp [List.getD, List.getElem?_eq_getElem he]
theorem Inv.cells (hI : Inv F w A X h) {s i : Nat} {B : Blk} (hB : hget h s i = some B) {e : Nat} (he : e < B.els.length) :
    ∀ (k : Nat) (c : V), (B.els.getD e [])[k]? = some c → ∃ u, w.cell? ⟨(X.D s i).b, (X.D s i).o + e * B.z + k, none⟩ = some u ∧ u.oneCell' = true ∧ RV w A X c u ∧ (B.cl = true → PV w A c u) := by
  intro k c hk
  have hb := hI.blk s i B hB
  rcases hb.mem with ⟨_, hn⟩ | ⟨arr, cap, h1, h2, h3, h4, h5, h6, _⟩
  · rw [hn] at he; simp at he
  · obtain ⟨u, g1, g2, g3, g4⟩ := h6 e k _ c (getD_get he) hk
    exact ⟨u, by simp [World.cell?, h1, g1], g2, g3, g4⟩
theorem sLoad_sound {T : TypeId} {v : V} {u : Value} (hI : Inv F w A X h) (hr : RV w A X v u) (hc : (sLoad P T v h).c) : ∃ r, (Instr.loadAt T u).run P w = .ok r w ∧ RV w A X (sLoad P T v h).v r := by
  cases v <;> simp only [sLoad, bad] at hc ⊢
  case ip z els e j =>
    obtain ⟨he, hj, h1, hT, h0⟩ := hc
    have h' := hr.ip_inv
    cases h' with
    | ip _ _ _ _ b off us hb hA hz hcell hv =>
      have hrow := rowAt_block (w := w) (A := A) (X := X) (b := b) (o := off) (z := z) (e := e) (j := j) (fun k c hk => ⟨us e k, (hcell e k _ c (getD_get he) hk).1, .pure (hv e k _ c (getD_get he) hk)⟩)
      have hlen : (els.getD e []).length = z := hz _ (List.mem_of_getElem? (getD_get he))
      obtain ⟨r, hr1, hr2⟩ := load_row (P := P) (T := T) hrow (by omega) h1 hT h0
      exact ⟨r, by simp [Instr.loadAt, Instr.sureAddr, hr1], hr2⟩
  case bptr s i n e j =>
    cases hg : hget h s i with
    | none => simp [hg] at hc
    | some B =>
      simp only [hg] at hc ⊢
      obtain ⟨hn, he, hj, h1, hT, h0⟩ := hc
      obtain ⟨a, rfl, _, _, ha⟩ := hr.bptr_inv
      have hb := hI.blk s i B hg
      have ha' := ha (by rw [hb.hlen]; exact hn)
      rw [hb.hz] at ha'
      subst ha'
      have hrow := rowAt_block (w := w) (A := A) (X := X) (b := (X.D s i).b) (o := (X.D s i).o) (z := B.z) (e := e) (j := j) (fun k c hk => by obtain ⟨u, g1, _, g3, _⟩ := hI.cells hg he k c hk; exact ⟨u, g1, g3⟩)
      have hlen : (B.els.getD e []).length = B.z := hb.rows _ (List.mem_of_getElem? (getD_get he))
      obtain ⟨r, hr1, hr2⟩ := load_row (P := P) (T := T) hrow (by omega) h1 hT h0
      exact ⟨r, by simp [Instr.loadAt, Instr.sureAddr, hr1], hr2⟩
theorem sStore_sound {T : TypeId} {a x : V} {ua ux : Value} (hI : Inv F w A X h) (ha : RV w A X a ua) (hx : RV w A X x ux) (hc : (sStore P T a x h).c) :
    ∃ w', (Instr.storeAt T ua ux).run P w = .ok () w' ∧ Later w A w' A ∧ Inv F w' A X (sStore P T a x h).h := by
  cases a <;> simp only [sStore, bad] at hc ⊢
  case bptr s i n e j =>
    cases hg : hget h s i with
    | none => simp [hg] at hc
    | some B =>
      simp only [hg] at hc ⊢
      obtain ⟨hn, he, hj, h0, hfz, hlen, hall⟩ := hc
      obtain ⟨ad, rfl, _, _, had⟩ := ha.bptr_inv
      have hb := hI.blk s i B hg
      have ha' := had (by rw [hb.hlen]; exact hn)
      rw [hb.hz] at ha'
      subst ha'
      have hcs := hx.cells hall
      obtain ⟨w', hr, hL, hI'⟩ := hI.store P hg hfz he (cs := x.cells) (us := ux.cells) (j := j) (by omega) hcs
      refine ⟨w', ?_, hL, hI'⟩
      have hsz : ux.cells.size = P.cellsOf T := by rw [hcs.1, hlen]
      simp [Instr.storeAt, Instr.sureAddr, storeVar, run_sizeOf' h0, hsz, hr]
omit [Gls] in
theorem sNil_sound {x : V} {u : Value} (hr : RV w A X x u) (hc : (sNil x h).c) : (∃ a, u = .pointer (some a)) ∧ RV w A X (sNil x h).v u := by
  cases x <;> simp only [sNil, bad] at hc ⊢
  case ip z els e j => have h' := hr.ip_inv; cases h'; exact ⟨⟨_, rfl⟩, hr⟩
  case bptr s i n e j => obtain ⟨a, rfl, _⟩ := hr.bptr_inv; exact ⟨⟨_, rfl⟩, hr⟩
omit [Gls] in
theorem vite_sound {b : Bool} {x y : V} {u1 u2 : Value} (hx : b = true → RV w A X x u1) (hy : b = false → RV w A X y u2) : RV w A X (vite b x y) (if b then u1 else u2) := by
  have gen : RV w A X (if b then x else y) (if b then u1 else u2) := by cases b <;> simp_all
  unfold vite
  split
  · rename_i p q
    cases b
    · rw [(hy rfl).bool_inv]; exact .pure (.bool _)
    · rw [(hx rfl).bool_inv]; exact .pure (.bool _)
  · rename_i k m k' n
    split
    · rename_i hk; subst hk
      cases b
      · rw [(hy rfl).int_inv]; exact .pure (.int _ _)
      · rw [(hx rfl).int_inv]; exact .pure (.int _ _)
    · exact gen
  · exact gen
omit [Gls] in
theorem sFieldAddr_sound {S : TypeId} {x : V} {f : Nat} {u : Value} (hr : RV w A X x u) (hc : (sFieldAddr P S x f h).c) : ∃ r, (Instr.fieldAt S u f).run P w = .ok r w ∧ RV w A X (sFieldAddr P S x f h).v r := by
  unfold sFieldAddr at hc ⊢
  split at hc
  · rename_i z els e j o ft hf
    simp only at hc ⊢
    obtain ⟨fs, fd, hu, hfs, rfl, rfl⟩ := fld_some hf
    have h' := hr.ip_inv
    cases h' with
    | ip _ _ _ _ b off us hb hA hz hcell hv =>
      refine ⟨.pointer (some ⟨b, off + e * z + (j + fd.offset), none⟩), ?_, .pure (.ip z els e _ b off us hb hA hz hcell hv)⟩
      have h0 : P.cellsOf fd.type ≠ 0 := by omega
      simp [Instr.fieldAt, run_underlying hu, hfs, Instr.sureAddr, fieldPlace, run_sizeOf' hc, h0, addr_add, Nat.add_assoc]
  · rename_i s i n e j o ft hf
    simp only at hc ⊢
    obtain ⟨fs, fd, hu, hfs, rfl, rfl⟩ := fld_some hf
    obtain ⟨a, rfl, hN, hn, ha⟩ := hr.bptr_inv
    refine ⟨.pointer (some (a.add fd.offset)), ?_, .bptr s i n e _ _ hN hn fun hh => by rw [ha hh, addr_add, Nat.add_assoc]⟩
    have h0 : P.cellsOf fd.type ≠ 0 := by omega
    simp [Instr.fieldAt, run_underlying hu, hfs, Instr.sureAddr, fieldPlace, run_sizeOf' hc, h0]
  · exact hc.elim
omit [Gls] in
theorem agg_row {cs : List V} {us : Array Value} (hl : us.size = cs.length) {o n : Nat} (ho : o + n ≤ cs.length) (hc : ∀ i c, cs[i]? = some c → RV w A X c (us.getD i und)) :
    RV w A X (.agg ((cs.drop o).take n)) (.agg (us.extract o (o + n))) := by
  refine .agg _ _ (by simp; omega) fun i c hi => ?_
  have hlt : i < n := by have := (List.getElem?_eq_some_iff.1 hi).1; rw [List.length_take] at this; omega
  rw [List.getElem?_take_of_lt hlt, List.getElem?_drop] at hi
  have h1 := hc _ c hi
  have : (us.extract o (o + n)).getD i und = us.getD (o + i) und := by
    simp only [Array.getD_eq_getD_getElem?, Array.getElem?_extract]
    rw [if_pos (by omega)]
  rw [this]; exact h1
omit [Gls] in
theorem part_sound {ft : TypeId} {cs : List V} {us : Array Value} (hl : us.size = cs.length) {o : Nat} (ho : o + P.cellsOf ft ≤ cs.length) (h0 : 0 < P.cellsOf ft) (hT : tyOk P ft = true) (hc : ∀ i c, cs[i]? = some c → RV w A X c (us.getD i und)) :
    ∃ r, (part ft us o).run P w = .ok r w ∧ RV w A X (loadR P ft cs o) r := by
  cases hag : isAg P ft with
  | true =>
    refine ⟨.agg (us.extract o (o + P.cellsOf ft)), by simp [part, run_isAgg hT, hag, run_sizeOf' h0], ?_⟩
    simp only [loadR, hag, if_true]
    exact agg_row hl ho hc
  | false =>
    have hlt : o < us.size := by omega
    refine ⟨us[o], by simp [part, run_isAgg hT, hag, Array.getElem?_eq_getElem hlt], ?_⟩
    have h2 := hc o cs[o] (List.getElem?_eq_getElem (by omega))
    simp only [loadR, hag, Bool.false_eq_true, if_false]
    have e1 : us.getD o und = us[o] := by simp [Array.getD_eq_getD_getElem?, Array.getElem?_eq_getElem hlt]
    have e2 : cs.getD o .top = cs[o] := by simp [List.getD, List.getElem?_eq_getElem (show o < cs.length by omega)]
    rw [e2, ← e1]; exact h2
omit [Gls] in
theorem sField_sound {S : TypeId} {x : V} {f : Nat} {u : Value} (hr : RV w A X x u) (hc : (sField P S x f h).c) : ∃ r, (Instr.field S u f).run P w = .ok r w ∧ RV w A X (sField P S x f h).v r := by
  unfold sField at hc ⊢
  split at hc
  · rename_i cs o ft hf
    simp only at hc ⊢
    obtain ⟨fs, fd, hu, hfs, rfl, rfl⟩ := fld_some hf
    obtain ⟨us, rfl, hl, hcs⟩ := hr.agg_inv
    obtain ⟨h1, h2, _, h4⟩ := hc
    obtain ⟨r, hr1, hr2⟩ := part_sound (P := P) hl h1 h2 h4 hcs
    exact ⟨r, by simp [Instr.field, run_underlying hu, hfs, asAgg, hr1], hr2⟩
  · exact hc.elim
omit [Gls] in
theorem sIndex_sound {T : TypeId} {x ix : V} {u ui : Value} (hr : RV w A X x u) (hi : RV w A X ix ui) (hc : (sIndex P T x ix h).c) : ∃ r, (Instr.index T u ui).run P w = .ok r w ∧ RV w A X (sIndex P T x ix h).v r := by
  unfold sIndex at hc ⊢
  split at hc
  · rename_i k n cs len e hf
    simp only at hc ⊢
    have hu := arEl_some hf
    obtain ⟨us, rfl, hl, hcs⟩ := hr.agg_inv
    rw [hi.int_inv]
    obtain ⟨h1, h2, h3, h4, _, h6⟩ := hc
    have hb : n.toNat * P.cellsOf e + P.cellsOf e ≤ cs.length := by
      rw [h3]
      have : (n.toNat + 1) * P.cellsOf e ≤ len * P.cellsOf e := Nat.mul_le_mul_right _ (by omega)
      rw [Nat.add_mul] at this; omega
    obtain ⟨r, hr1, hr2⟩ := part_sound (P := P) hl hb h4 h6 hcs
    exact ⟨r, by simp [Instr.index, asIntOf, run_underlying hu, h1, h2, run_sizeOf' h4, hr1], hr2⟩
  · exact hc.elim
theorem sIndexAddr_sound {T : TypeId} {x ix : V} {u ui : Value} (hI : Inv F w A X h) (hr : RV w A X x u) (hi : RV w A X ix ui) (hc : (sIndexAddr P T x ix h).c) : ∃ r, (Instr.indexAt T u ui).run P w = .ok r w ∧ RV w A X (sIndexAddr P T x ix h).v r := by
  unfold sIndexAddr at hc ⊢
  split at hc
  · rename_i k n
    rw [hi.int_inv]
    split at hc
    · rename_i _ z els e hf
      simp only at hc ⊢
      obtain ⟨h1, h2, h3, h4⟩ := hc
      have hu := slEl_some hf
      have h' := hr.sl_inv
      cases h' with
      | sl0 => simp at h4; omega
      | sl _ _ b off cap us hcap hb hA hz hcell hv =>
        refine ⟨.pointer (some ⟨b, off + n.toNat * z + 0, none⟩), ?_, .pure (.ip z els _ _ b off us hb hA hz hcell hv)⟩
        simp [Instr.indexAt, asIntOf, run_underlying hu, h3, h4, run_sizeOf' (h1 ▸ h2), addr_add, h1]
    · rename_i _ s i m e hf
      have hu := slEl_some hf
      cases hg : hget h s i with
      | none => simp [hg, bad] at hc
      | some B =>
        simp only [hg] at hc ⊢
        obtain ⟨h1, h2, h3, h4, h5⟩ := hc
        obtain ⟨a, c, rfl, hN, hn, ha⟩ := hr.bsl_inv
        have hb := hI.blk s i B hg
        have hv := ha (by rw [hb.hlen]; exact h3)
        rcases hb.mem with ⟨_, hnil⟩ | ⟨arr, cap, g1, g2, _⟩
        · rw [hnil] at h3; simp at h3; omega
        · rw [g2] at hv
          injection hv with hv1 hv2 hv3
          subst hv1
          refine ⟨.pointer (some ⟨(X.D s i).b, (X.D s i).o + n.toNat * P.cellsOf e, none⟩), ?_, .bptr s i m _ _ _ hN hn fun _ => by rw [hb.hz, h1]; simp⟩
          simp [Instr.indexAt, asIntOf, run_underlying hu, h4, h5, run_sizeOf' (h1 ▸ h2), addr_add]
    · rename_i _ s i m off len cp e hf
      have hu := slEl_some hf
      cases hg : hget h s i with
      | none => simp [hg, bad] at hc
      | some B =>
        simp only [hg] at hc ⊢
        obtain ⟨h1, h2, h3, h4, h5⟩ := hc
        obtain ⟨a, c', rfl, hcc, hN, hn, ha⟩ := hr.osl_inv
        have hb := hI.blk s i B hg
        refine ⟨.pointer (some (a.add (n.toNat * P.cellsOf e))), ?_, .bptr s i m _ _ _ hN hn fun hh => by rw [(ha hh).1, addr_add, hb.hz, h1, Nat.add_mul, ← Nat.add_assoc]; simp⟩
        simp [Instr.indexAt, asIntOf, run_underlying hu, h4, h5, run_sizeOf' (h1 ▸ h2)]
    · rename_i _ z els e0 j len e hf
      simp only at hc ⊢
      obtain ⟨h1, h2, h3⟩ := hc
      have hu := arEl_some hf
      have h' := hr.ip_inv
      cases h' with
      | ip _ _ _ _ b off us hb hA hz hcell hv =>
        refine ⟨.pointer (some ⟨b, off + e0 * z + (j + n.toNat * P.cellsOf e), none⟩), ?_, .pure (.ip z els _ _ b off us hb hA hz hcell hv)⟩
        simp [Instr.indexAt, asIntOf, Instr.sureAddr, run_underlying hu, h1, h2, run_sizeOf' h3, addr_add, Nat.add_assoc]
    · rename_i _ s i m e0 j len e hf
      simp only at hc ⊢
      obtain ⟨h1, h2, h3⟩ := hc
      have hu := arEl_some hf
      obtain ⟨a, rfl, hN, hn, ha⟩ := hr.bptr_inv
      refine ⟨.pointer (some (a.add (n.toNat * P.cellsOf e))), ?_, .bptr s i m _ _ _ hN hn fun hh => by rw [ha hh, addr_add, Nat.add_assoc]⟩
      simp [Instr.indexAt, asIntOf, Instr.sureAddr, run_underlying hu, h1, h2, run_sizeOf' h3]
    · exact hc.elim
  · exact hc.elim
end
end Go.Sx
