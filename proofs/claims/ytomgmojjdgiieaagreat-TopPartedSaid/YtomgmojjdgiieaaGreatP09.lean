/- The soundness of slicing, lengths, and small operations. No conditions. -/
import Derived.Test.YtomgmojjdgiieaaGreatP08
set_option linter.unusedSimpArgs false
set_option linter.unusedVariables false
set_option linter.unusedSectionVars false
namespace Go.Sx
open Go.RowKit
variable [Gls]
section
variable {F : Fr} {w : World} {A : Nat → Prop} {X : Refs} {h : Hp} {P : Program}
def OptR : Option Int → Option Value → Prop
  | none, none => True
  | some n, some u => ∃ k, u = .int k n
  | _, _ => False
omit [Gls] in
theorem run_sliceBounds {s : Bool} {len cap : Nat} {lo hi : Option Int} {ul uh : Option Value} (hlo : OptR lo ul) (hhi : OptR hi uh) (h1 : 0 ≤ lo.getD 0) (h2 : lo.getD 0 ≤ hi.getD len) (h3 : hi.getD len ≤ cap) :
    (Instr.sliceBounds s len cap ul uh none).run P w = .ok ((lo.getD 0).toNat, (hi.getD len).toNat, cap) w := by
  unfold Instr.sliceBounds
  have hb : ∀ (k : IntKind) (i : Int) (y : Nat) (c : BoundsCode), 0 ≤ i → i ≤ y → (Instr.sliceBound (.int k i) y c).run P w = .ok i.toNat w := by
    intro k i y c g1 g2
    simp [Instr.sliceBound, asIntOf, g1, g2]
  cases lo with
  | none =>
    cases ul with
    | some => exact hlo.elim
    | none =>
      cases hi with
      | none =>
        cases uh with
        | some => exact hhi.elim
        | none => simp
      | some n =>
        cases uh with
        | none => exact hhi.elim
        | some u =>
          obtain ⟨k, rfl⟩ := hhi
          simp only [Option.getD_some, Option.getD_none] at h1 h2 h3
          simp [hb k n cap _ h2 h3]
  | some m =>
    cases ul with
    | none => exact hlo.elim
    | some u =>
      obtain ⟨k, rfl⟩ := hlo
      cases hi with
      | none =>
        cases uh with
        | some => exact hhi.elim
        | none =>
          simp only [Option.getD_some, Option.getD_none] at h1 h2 h3
          simp [hb k m len _ h1 h2]
      | some n =>
        cases uh with
        | none => exact hhi.elim
        | some u =>
          obtain ⟨k', rfl⟩ := hhi
          simp only [Option.getD_some] at h1 h2 h3
          simp [hb k' n cap _ (by omega) h3, hb k m n.toNat _ h1 (by omega)]
omit [Gls] in
theorem sliceAt_slice {T e : TypeId} (hu : P.underlying T = some (.slice e)) (h0 : 0 < P.cellsOf e) {a : Option Addr} {len cap : Nat} {lo hi : Option Int} {ul uh : Option Value} (hlo : OptR lo ul) (hhi : OptR hi uh)
    (h1 : 0 ≤ lo.getD 0) (h2 : lo.getD 0 ≤ hi.getD len) (h3 : hi.getD len ≤ cap) :
    (Instr.sliceAt T (.slice a len cap) ul uh none).run P w = .ok (.slice (if cap = (lo.getD 0).toNat then a else a.map (·.add ((lo.getD 0).toNat * P.cellsOf e))) ((hi.getD len).toNat - (lo.getD 0).toNat) (cap - (lo.getD 0).toNat)) w := by
  have hb := run_sliceBounds (P := P) (w := w) (s := true) hlo hhi h1 h2 h3
  simp [Instr.sliceAt, Instr.slice, run_underlying hu, hb, run_sizeOf' h0]
omit [Gls] in
theorem sliceAt_slice3 {T e : TypeId} (hu : P.underlying T = some (.slice e)) (h0 : 0 < P.cellsOf e) {a : Option Addr} {len cap : Nat} {lo : Option Int} {hi m : Int} {ul uh um : Option Value} (hlo : OptR lo ul) (hhi : OptR (some hi) uh) (hm : OptR (some m) um)
    (h1 : 0 ≤ lo.getD 0) (h2 : lo.getD 0 ≤ hi) (h3 : hi ≤ m) (h4 : m ≤ cap) : ∃ r, (Instr.sliceAt T (.slice a len cap) ul uh um).run P w = .ok r w := by
  have hb : ∀ (k : IntKind) (i : Int) (y : Nat) (c : BoundsCode), 0 ≤ i → i ≤ y → (Instr.sliceBound (.int k i) y c).run P w = .ok i.toNat w := by
    intro k i y c g1 g2
    simp [Instr.sliceBound, asIntOf, g1, g2]
  cases uh with
  | none => exact hhi.elim
  | some uh =>
    cases um with
    | none => exact hm.elim
    | some um =>
      obtain ⟨k1, rfl⟩ := hhi
      obtain ⟨k2, rfl⟩ := hm
      have hbb : ∃ l, (Instr.sliceBounds true len cap ul (some (.int k1 hi)) (some (.int k2 m))).run P w = .ok (l, hi.toNat, m.toNat) w := by
        unfold Instr.sliceBounds
        cases lo with
        | none =>
          cases ul with
          | some => exact hlo.elim
          | none =>
            simp only [Option.getD_none] at h1 h2
            exact ⟨0, by simp [hb k2 m cap _ (by omega) h4, hb k1 hi m.toNat _ (by omega) (by omega)]⟩
        | some q =>
          cases ul with
          | none => exact hlo.elim
          | some u =>
            obtain ⟨k, rfl⟩ := hlo
            simp only [Option.getD_some] at h1 h2
            exact ⟨q.toNat, by simp [hb k2 m cap _ (by omega) h4, hb k1 hi m.toNat _ (by omega) (by omega), hb k q hi.toNat _ h1 (by omega)]⟩
      obtain ⟨l, hbb⟩ := hbb
      exact ⟨.slice (if m.toNat = l then a else a.map (·.add (l * P.cellsOf e))) (hi.toNat - l) (m.toNat - l), by simp [Instr.sliceAt, Instr.slice, run_underlying hu, hbb, run_sizeOf' h0]⟩
omit [Gls] in
theorem sliceAt_array {T e : TypeId} {n : Nat} (hu : P.underlying T = some (.array n e)) (h0 : 0 < P.cellsOf e) {a : Addr} {lo hi : Option Int} {ul uh : Option Value} (hlo : OptR lo ul) (hhi : OptR hi uh)
    (h1 : 0 ≤ lo.getD 0) (h2 : lo.getD 0 ≤ hi.getD n) (h3 : hi.getD n ≤ n) :
    (Instr.sliceAt T (.pointer (some a)) ul uh none).run P w = .ok (.slice (some (if n = (lo.getD 0).toNat then a else a.add ((lo.getD 0).toNat * P.cellsOf e))) ((hi.getD n).toNat - (lo.getD 0).toNat) (n - (lo.getD 0).toNat)) w := by
  have hb := run_sliceBounds (P := P) (w := w) (s := false) hlo hhi h1 h2 h3
  simp [Instr.sliceAt, Instr.sureAddr, run_underlying hu, hb, run_sizeOf' h0]
omit [Gls] in
theorem PV.piece {z : Nat} {els : List (List V)} {b off cap : Nat} {us : Nat → Nat → Value} (hcap : els.length ≤ cap) (hb : b < w.heap.size) (hA : ¬ A b) (hz : ∀ row ∈ els, row.length = z)
    (hc : ∀ e j row c, els[e]? = some row → row[j]? = some c → w.cell? ⟨b, off + e * z + j, none⟩ = some (us e j) ∧ (us e j).oneCell' = true)
    (hv : ∀ e j row c, els[e]? = some row → row[j]? = some c → PV w A c (us e j)) {l m : Nat} (hl : l ≤ m) (hm : m ≤ els.length) :
    PV w A (.sl z ((els.drop l).take (m - l))) (.slice (if cap = l then some ⟨b, off, none⟩ else some ((⟨b, off, none⟩ : Addr).add (l * z))) (m - l) (cap - l)) := by
  have hlen : ((els.drop l).take (m - l)).length = m - l := by simp; omega
  by_cases he : m - l = 0
  · have h0 : (els.drop l).take (m - l) = [] := List.eq_nil_of_length_eq_zero (by omega)
    rw [h0, he]; exact .sl0 z _ _
  · rw [if_neg (by omega), addr_add]
    have := PV.sl (w := w) (A := A) z ((els.drop l).take (m - l)) b (off + l * z) (cap - l) (fun e j => us (l + e) j) (by omega) hb hA (fun row hr => hz row (List.mem_of_mem_drop (List.mem_of_mem_take hr)))
      (fun e j row c he hj => by
        have hlt : e < m - l := by have := (List.getElem?_eq_some_iff.1 he).1; omega
        rw [List.getElem?_take_of_lt hlt, List.getElem?_drop] at he
        have := hc _ j row c he hj
        rw [Nat.add_mul] at this
        rw [show off + l * z + e * z + j = off + (l * z + e * z) + j by omega]; exact this)
      (fun e j row c he hj => by
        have hlt : e < m - l := by have := (List.getElem?_eq_some_iff.1 he).1; omega
        rw [List.getElem?_take_of_lt hlt, List.getElem?_drop] at he
        exact hv _ j row c he hj)
    rw [hlen] at this; exact this
omit [Gls] in
theorem PV.rowSlice {row : List V} {b off n : Nat} {us : Nat → Value} (hb : b < w.heap.size) (hA : ¬ A b) (hn : n ≤ row.length)
    (hc : ∀ (k : Nat) (c : V), row[k]? = some c → w.cell? ⟨b, off + k, none⟩ = some (us k) ∧ (us k).oneCell' = true ∧ PV w A c (us k)) {l m : Nat} (hl : l ≤ m) (hm : m ≤ n) :
    PV w A (.sl 1 (((row.drop l).take (m - l)).map fun c => [c])) (.slice (some (if n = l then ⟨b, off, none⟩ else (⟨b, off, none⟩ : Addr).add (l * 1))) (m - l) (n - l)) := by
  have hlen : (((row.drop l).take (m - l)).map fun c => [c]).length = m - l := by simp; omega
  by_cases he : m - l = 0
  · have h0 : ((row.drop l).take (m - l)).map (fun c => [c]) = [] := List.eq_nil_of_length_eq_zero (by rw [hlen]; exact he)
    rw [h0, he]; exact .sl0 1 _ _
  · rw [if_neg (by omega), addr_add]
    have get : ∀ (e j : Nat) (r : List V) (c : V), (((row.drop l).take (m - l)).map fun c => [c])[e]? = some r → r[j]? = some c → j = 0 ∧ row[l + e]? = some c := by
      intro e j r c h1 h2
      rw [List.getElem?_map] at h1
      cases hx : ((row.drop l).take (m - l))[e]? with
      | none => simp [hx] at h1
      | some x =>
        simp [hx] at h1; subst h1
        have hlt : e < m - l := by have := (List.getElem?_eq_some_iff.1 hx).1; rw [List.length_take] at this; omega
        rw [List.getElem?_take_of_lt hlt, List.getElem?_drop] at hx
        cases j with
        | zero => simp at h2; subst h2; exact ⟨rfl, hx⟩
        | succ j => simp at h2
    have := PV.sl (w := w) (A := A) 1 (((row.drop l).take (m - l)).map fun c => [c]) b (off + l * 1) (n - l) (fun e _ => us (l + e)) (by omega) hb hA (fun r hr => by obtain ⟨c, _, rfl⟩ := List.mem_map.1 hr; rfl)
      (fun e j r c he hj => by
        obtain ⟨rfl, hg⟩ := get e j r c he hj
        obtain ⟨g1, g2, _⟩ := hc _ c hg
        rw [show off + l * 1 + e * 1 + 0 = off + (l + e) by omega]; exact ⟨g1, g2⟩)
      (fun e j r c he hj => by
        obtain ⟨rfl, hg⟩ := get e j r c he hj
        exact (hc _ c hg).2.2)
    rw [hlen] at this; exact this
theorem sliceV_sound {T : TypeId} {x : V} {u : Value} {lo hi mx : Option (Option Int)} {ul uh um : Option Value} (hI : Inv F w A X h) (hr : RV w A X x u)
    (hlo : ∀ r, lo = some r → OptR r ul) (hhi : ∀ r, hi = some r → OptR r uh) (hmx : ∀ r, mx = some r → OptR r um) (hc : (sliceV P T x lo hi mx h).1) :
    ∃ r, (Instr.sliceAt T u ul uh um).run P w = .ok r w ∧ RV w A X (sliceV P T x lo hi mx h).2 r := by
  unfold sliceV at hc ⊢
  split at hc
  · rename_i lo hi
    have hlo := hlo lo rfl
    have hhi := hhi hi rfl
    have hmx := hmx none rfl
    cases um with
    | some => exact hmx.elim
    | none =>
      simp only at hc ⊢
      split at hc
      · -- nil
        obtain ⟨h1, h2, h3, h4⟩ := hc
        cases hs : slEl P T with
        | none => exact absurd hs h1
        | some e =>
          rw [hr.nil_inv]
          have hz : 0 < P.cellsOf e := by simpa [hs] using h4
          have := sliceAt_slice (P := P) (w := w) (slEl_some hs) hz (a := none) (len := 0) (cap := 0) hlo hhi (by omega) (by simpa [h2] using (by rw [show ((0 : Nat) : Int) = 0 from rfl, h3]; exact Int.le_refl 0 : (0 : Int) ≤ hi.getD ((0 : Nat) : Int))) (by rw [show ((0 : Nat) : Int) = 0 from rfl, h3]; exact Int.le_refl 0)
          refine ⟨.slice none 0 0, ?_, .pure .nil⟩
          rw [this, h2, show hi.getD ((0 : Nat) : Int) = 0 from h3]
          simp
      · -- sl
        rename_i z els
        obtain ⟨h1, h2, h3, h4, h5, h6⟩ := hc
        cases hs : slEl P T with
        | none => exact absurd hs h1
        | some e =>
          have hz : P.cellsOf e = z := by simpa [hs] using h2
          have h' := hr.sl_inv
          cases h' with
          | sl0 _ a cap =>
            simp only [List.length_nil] at h4 h5
            have := sliceAt_slice (P := P) (w := w) (slEl_some hs) (by rw [hz]; exact h6) (a := a) (len := 0) (cap := cap) hlo hhi h3 h4 (by omega)
            refine ⟨_, this, .pure ?_⟩
            simp only [List.drop_nil, List.take_nil, List.length_nil]
            have e0 : (hi.getD ((0 : Nat) : Int)).toNat - (lo.getD 0).toNat = 0 := by omega
            rw [e0]; exact .sl0 _ _ _
          | sl _ _ b off cap us hcap hb hA hz' hcell hv =>
            have := sliceAt_slice (P := P) (w := w) (slEl_some hs) (by rw [hz]; exact h6) (a := some ⟨b, off, none⟩) (len := els.length) (cap := cap) hlo hhi h3 h4 (by omega)
            refine ⟨_, this, .pure ?_⟩
            have hp := PV.piece (w := w) (A := A) hcap hb hA hz' hcell hv (l := (lo.getD 0).toNat) (m := (hi.getD els.length).toNat) (by omega) (by omega)
            rw [hz]
            simpa using hp
      · -- ip
        rename_i z els e j
        cases ha : arEl P T with
        | none => simp [ha] at hc
        | some ne =>
          obtain ⟨n, el⟩ := ne
          simp only [ha] at hc ⊢
          obtain ⟨h1, h2, h3, h4, h5, h6⟩ := hc
          have h' := hr.ip_inv
          cases h' with
          | ip _ _ _ _ b off us hb hA hz hcell hv =>
            have hrun := sliceAt_array (P := P) (w := w) (arEl_some ha) (by omega) (a := ⟨b, off + e * z + j, none⟩) hlo hhi h2 h3 h4
            have hrow : (els.getD e []).length = z := hz _ (List.mem_of_getElem? (getD_get h5))
            refine ⟨_, hrun, .pure ?_⟩
            rw [h1]
            exact PV.rowSlice (w := w) (A := A) (row := (els.getD e []).drop j) (n := n) (us := fun k => us e (j + k)) hb hA (by rw [List.length_drop]; omega) (fun k c hk => by
              rw [List.getElem?_drop] at hk
              have g := hcell e _ _ c (getD_get h5) hk
              rw [show off + e * z + j + k = off + e * z + (j + k) by omega]
              exact ⟨g.1, g.2, hv e _ _ c (getD_get h5) hk⟩) (l := (lo.getD 0).toNat) (m := (hi.getD n).toNat) (by omega) (by omega)
      · -- bptr
        rename_i s i n0 e j
        cases ha : arEl P T with
        | none => simp [ha] at hc
        | some ne =>
          obtain ⟨n, el⟩ := ne
          cases hg : hget h s i with
          | none => simp [ha, hg] at hc
          | some B =>
            simp only [ha, hg] at hc ⊢
            obtain ⟨hfz, hcl, hn0, h1, h2, h3, h4, h5, h6⟩ := hc
            obtain ⟨a, rfl, _, _, had⟩ := hr.bptr_inv
            have hb := hI.blk s i B hg
            have ha' := had (by rw [hb.hlen]; exact hn0)
            rw [hb.hz] at ha'
            subst ha'
            have hrun := sliceAt_array (P := P) (w := w) (arEl_some ha) (by omega) (a := ⟨(X.D s i).b, (X.D s i).o + e * B.z + j, none⟩) hlo hhi h2 h3 h4
            have hrow : (B.els.getD e []).length = B.z := hb.rows _ (List.mem_of_getElem? (getD_get h5))
            refine ⟨_, hrun, .pure ?_⟩
            rw [h1]
            have hmem : (X.D s i).b < w.heap.size ∧ ¬ A (X.D s i).b := by
              rcases hb.mem with ⟨_, hh⟩ | ⟨arr, cap, g1, g2, g3, g4, g5, g6, g7, g8⟩
              · rw [hh] at h5; simp at h5
              · exact ⟨(Array.getElem?_eq_some_iff.1 g1).1, g7 hfz⟩
            exact PV.rowSlice (w := w) (A := A) (row := (B.els.getD e []).drop j) (n := n) (us := fun k => (w.cell? ⟨(X.D s i).b, (X.D s i).o + e * B.z + (j + k), none⟩).getD und) hmem.1 hmem.2 (by rw [List.length_drop]; omega) (fun k c hk => by
              rw [List.getElem?_drop] at hk
              obtain ⟨u, g1, g2, g3, g4⟩ := hI.cells hg h5 _ c hk
              simp only [g1, Option.getD_some]
              rw [show (X.D s i).o + e * B.z + j + k = (X.D s i).o + e * B.z + (j + k) by omega]
              exact ⟨g1, g2, g4 hcl⟩) (l := (lo.getD 0).toNat) (m := (hi.getD n).toNat) (by omega) (by omega)
      · -- bsl
        rename_i s i n
        cases hg : hget h s i with
        | none => simp [hg] at hc
        | some B =>
          simp only [hg] at hc ⊢
          cases hfz : B.fz with
          | false =>
            rw [hfz] at hc
            simp only at hc ⊢
            obtain ⟨h1, h2, h3, h4, h5, h6, h7, hz0⟩ := hc
            cases hs : slEl P T with
            | none => exact absurd hs h1
            | some e =>
              have hz : P.cellsOf e = B.z := by simpa [hs] using h2
              obtain ⟨a, c, rfl, hN, hn', hv⟩ := hr.bsl_inv
              have hb := hI.blk s i B hg
              have hv' := hv (by rw [hb.hlen]; exact h3)
              rcases hb.mem with ⟨_, hh⟩ | ⟨arr, cap, g1, g2, g3, g4, g5, g6, g7, g8⟩
              · rw [hh] at h3; simp at h3; omega
              · rw [g2] at hv'
                injection hv' with e1 e2 e3
                subst e1 e3
                have hrun := sliceAt_slice (P := P) (w := w) (slEl_some hs) (by rw [hz]; exact hz0) (a := some ⟨(X.D s i).b, (X.D s i).o, none⟩) (len := n) (cap := c) hlo hhi h4 h5 (by omega)
                refine ⟨_, hrun, ?_⟩
                rw [if_neg (by omega)]
                refine .osl s i n (lo.getD 0).toNat _ _ (Addr.add ⟨(X.D s i).b, (X.D s i).o, none⟩ ((lo.getD 0).toNat * P.cellsOf e)) _ (by omega) hN hn' fun _ => ⟨by rw [addr_add, hb.hz, hz], ?_⟩
                have : (X.D s i).cap = c := by unfold Hd.cap; rw [g2]
                omega
          | true =>
          rw [hfz] at hc
          simp only at hc ⊢
          obtain ⟨h1, h2, h3, hn0, h4, h5, h6, hcl, hz0⟩ := hc
          cases hs : slEl P T with
          | none => exact absurd hs h1
          | some e =>
            have hz : P.cellsOf e = B.z := by simpa [hs] using h2
            obtain ⟨a, c, rfl, hN, hn', hv⟩ := hr.bsl_inv
            have hb := hI.blk s i B hg
            have hv' := hv (by rw [hb.hlen]; exact h3)
            rcases hb.mem with ⟨_, hh⟩ | ⟨arr, cap, g1, g2, g3, g4, g5, g6, g7, g8⟩
            · rw [hh] at h3; simp at h3; omega
            · rw [g2] at hv'
              injection hv' with e1 e2 e3
              subst e1 e3
              have hrun := sliceAt_slice (P := P) (w := w) (slEl_some hs) (by rw [hz]; exact hz0) (a := some ⟨(X.D s i).b, (X.D s i).o, none⟩) (len := n) (cap := c) hlo hhi h4 h5 (by omega)
              refine ⟨_, hrun, .pure ?_⟩
              have hp := PV.piece (w := w) (A := A) (off := (X.D s i).o) (us := fun e j => (w.cell? ⟨(X.D s i).b, (X.D s i).o + e * B.z + j, none⟩).getD und) g3 (Array.getElem?_eq_some_iff.1 g1).1 (g7 hfz) hb.rows (fun e j row c he hj => by
                obtain ⟨u, k1, k2, k3, k4⟩ := g6 e j row c he hj
                have hcell : w.cell? ⟨(X.D s i).b, (X.D s i).o + e * B.z + j, none⟩ = some u := by simp [World.cell?, g1, k1]
                simp only [hcell, Option.getD_some]; exact ⟨trivial, k2⟩) (fun e j row c he hj => by
                obtain ⟨u, k1, k2, k3, k4⟩ := g6 e j row c he hj
                have hcell : w.cell? ⟨(X.D s i).b, (X.D s i).o + e * B.z + j, none⟩ = some u := by simp [World.cell?, g1, k1]
                simp only [hcell, Option.getD_some]; exact k4 hcl) (l := (lo.getD 0).toNat) (m := (hi.getD n).toNat) (by omega) (by omega)
              rw [hz]
              simpa using hp
      · -- osl
        rename_i s i n off len cap
        obtain ⟨⟨h1, h2, h3, h4, h5, h6⟩, h7⟩ := hc
        cases hs : slEl P T with
        | none => exact absurd hs h1
        | some e =>
          have hz : 0 < P.cellsOf e := by simpa [hs] using h2
          obtain ⟨a, c, rfl, hcc, hN, hn', hv⟩ := hr.osl_inv
          have hrun := sliceAt_slice (P := P) (w := w) (slEl_some hs) hz (a := some a) (len := len) (cap := c) hlo hhi h3 h4 (by omega)
          generalize hl : (lo.getD 0).toNat = l at *
          rcases h7 with h7 | ⟨h7, h8⟩
          · have hl0 : l = 0 := by omega
            subst hl0
            refine ⟨_, hrun, ?_⟩
            have ha : (if c = 0 then some a else (some a).map (·.add (0 * P.cellsOf e))) = some a := by
              split
              · rfl
              · simp [Addr.add]
            rw [ha]
            exact .osl s i n off _ cap a _ hcc hN hn' hv
          · refine ⟨_, hrun, ?_⟩
            have hcl : ¬ c = l := by omega
            rw [if_neg hcl]
            cases hg : hget h s i with
            | none => rw [hg] at h8; exact h8.elim
            | some B =>
              rw [hg] at h8
              have hzB : P.cellsOf e = B.z := by simpa [hs] using h8
              have hb := hI.blk s i B hg
              refine .osl s i n (off + l) _ (cap - l) (a.add (l * P.cellsOf e)) _ (by omega) hN hn' fun hh => ?_
              obtain ⟨v1, v2⟩ := hv hh
              refine ⟨by rw [v1, addr_add, hb.hz, hzB, Nat.add_mul, Nat.add_assoc], by omega⟩
      · exact hc.elim
  · rename_i lo hi m
    have hlo := hlo lo rfl
    have hhi := hhi (some hi) rfl
    have hmx := hmx (some m) rfl
    split at hc
    · rename_i s i n
      cases hg : hget h s i with
      | none => simp [hg] at hc
      | some B =>
        simp only [hg] at hc ⊢
        obtain ⟨h1, h2, h3, h4, h5, h6, h7⟩ := hc
        cases hs : slEl P T with
        | none => exact absurd hs h1
        | some e =>
          have hz : 0 < P.cellsOf e := by simpa [hs] using h2
          obtain ⟨a, c, rfl, hN, hn', hv⟩ := hr.bsl_inv
          have hb := hI.blk s i B hg
          have hv' := hv (by rw [hb.hlen]; exact h3)
          have hcap : n ≤ c := by
            rcases hb.mem with ⟨hh0, hh⟩ | ⟨arr, cap, g1, g2, g3, g4, g5, g6, g7, g8⟩
            · rw [hh] at h3; simp at h3; omega
            · rw [g2] at hv'
              injection hv' with e1 e2 e3
              omega
          obtain ⟨r, hrun⟩ := sliceAt_slice3 (P := P) (w := w) (slEl_some hs) hz (a := a) (len := n) (cap := c) hlo hhi hmx h4 h5 h6 (by omega)
          exact ⟨r, hrun, .pure (.top _)⟩
    · rename_i s i n off len cap
      obtain ⟨h1, h2, h3, h4, h5, h6⟩ := hc
      cases hs : slEl P T with
      | none => exact absurd hs h1
      | some e =>
        have hz : 0 < P.cellsOf e := by simpa [hs] using h2
        obtain ⟨a, c, rfl, hcc, hN, hn', hv⟩ := hr.osl_inv
        obtain ⟨r, hrun⟩ := sliceAt_slice3 (P := P) (w := w) (slEl_some hs) hz (a := some a) (len := len) (cap := c) hlo hhi hmx h3 h4 h5 (by omega)
        exact ⟨r, hrun, .pure (.top _)⟩
    · exact hc.elim
  · exact hc.elim
omit [Gls] in
theorem run_append_zeros (P : Program) (t it ty e : TypeId) (k k' : IntKind) (i : TypeInfo) (z : Value) (ht : P.underlying t = some (.slice e)) (hit : P.underlying it = some (.int k)) (hi : P.info? e = some i) (hz : i.zero = some z) (hi0 : 0 < i.size)
    {m : Nat} (h0 : 0 < m) (h63 : (m : Int) ≤ 9223372036854775807) (h48 : m * i.bytes ≤ 281474976710656) :
    (Builtin.append_ #[t, it] ty #[.slice none 0 0, .int k' m]).run P w =
      .ok (.slice (some ⟨w.heap.size, 0, none⟩) m (grownCap w m 0 e)) (w.drew.alloc (.cells (Builtin.zeroCells z.cells m ++ Builtin.zeroCells z.cells (grownCap w m 0 e - m)) e)) := by
  have hn : ¬ m = 0 := by omega
  have hw : IntKind.wrap .i64 (m : Int) = m := by rw [IntKind.wrap_i64]; omega
  have h63' : ¬ (9223372036854775807 < (m : Int)) := by omega
  have h48' : ¬ (281474976710656 < Builtin.nextslicecap m 0 * i.bytes) := by rw [nextslicecap_zero h0]; omega
  have h48'' : ¬ (281474976710656 < (m : Int) * (i.bytes : Int)) := by
    have : ((m * i.bytes : Nat) : Int) = (m : Int) * (i.bytes : Int) := by simp
    omega
  have hnz : ¬ (m * i.size = 0) := Nat.ne_of_gt (Nat.mul_pos h0 hi0)
  have hw2 : ¬ (m : Int) < 0 := by omega
  simp [Builtin.append_, run_underlying ht, run_underlying hit, sizeOf, typeInfo, zeroValue, hi, hz, Builtin.lenOf, hn, hw, h63', h48', h48'', Question.forced, run_firstCells_none, newRow, grownCap, asInt, asIntOf, hw2]
  intro hh; exact absurd hh hnz
theorem appendZ_sound {own : Bool} {key : Nat} {T T2 ty : TypeId} {s x : V} {us ux : Value} (hI : Inv F w A X h) (hs : RV w A X s us) (hx : RV w A X x ux) (hc : (sAppendZ P own key T T2 s x h).c) :
    ∃ r w' A' X', (Builtin.append_ #[T, T2] ty #[us, ux]).run P w = .ok r w' ∧ Later w A w' A' ∧ Xle X X' ∧ Inv F w' A' X' (sAppendZ P own key T T2 s x h).h ∧ RV w' A' X' (sAppendZ P own key T T2 s x h).v r := by
  unfold sAppendZ at hc ⊢
  split at hc
  · rename_i e k k' m hsl hik
    have hu := slEl_some hsl
    rw [hs.nil_inv, hx.int_inv]
    obtain ⟨c0, c1, c3, c4, c5, c6, c7⟩ := hc
    obtain ⟨i, zv, hi, hsz0, hz, hzc, hsz⟩ := zc_some c4 c3
    have hby : P.bytesOf e = i.bytes := by simp [Program.bytesOf, hi]
    obtain ⟨q, rfl⟩ := Int.eq_ofNat_of_zero_le (Int.le_of_lt c1)
    have hint : P.underlying T2 = some (.int k) := by
      unfold intK at hik
      split at hik <;> simp_all
    have hqb : q * i.bytes ≤ 140737488355328 := by
      rw [hby] at c6
      have : ((q * i.bytes : Nat) : Int) = (q : Int) * (i.bytes : Int) := by simp
      omega
    have hr := run_append_zeros (w := w) P T T2 ty e k k' i zv hu hint hi hz (by omega) (m := q) (by omega) c7 (by omega)
    obtain ⟨hLd, hId⟩ := hI.drew
    have hqm : q ≤ maxLen := by simp only [maxLen]; omega
    have hcap := grownCap_ge w q 0 e
    have hgm := grownCap_le_maxLen w q 0 e hqm
    have hcells : ∀ (e1 j : Nat) (row : List V) (c : V), (List.replicate q (zc P e))[e1]? = some row → row[j]? = some c → ∃ u, (Builtin.zeroCells zv.cells q ++ Builtin.zeroCells zv.cells (grownCap w q 0 e - q))[e1 * P.cellsOf e + j]? = some u ∧ u.oneCell' = true ∧ RV w.drew A X c u ∧ (true = true → PV w.drew A c u) := by
      intro e1 j row c he hj
      have hlt : e1 < q := by have := (List.getElem?_eq_some_iff.1 he).1; simpa using this
      have hrow : row = zc P e := List.eq_of_mem_replicate (List.mem_of_getElem? he)
      subst hrow
      have hjl : j < zv.cells.size := by have := (List.getElem?_eq_some_iff.1 hj).1; omega
      have hin : e1 * zv.cells.size + j < (Builtin.zeroCells zv.cells q).size := by rw [size_zeroCells]; exact idx_lt hlt hjl
      have hg : (Builtin.zeroCells zv.cells q ++ Builtin.zeroCells zv.cells (grownCap w q 0 e - q))[e1 * P.cellsOf e + j]? = zv.cells[j]? := by
        rw [← hsz, Array.getElem?_append_left hin]; exact zrow_get hlt hjl
      rw [hg]
      have hok := ofVal1_cells (w := w.drew) (A := A) (X := X) (zs := zv.cells) (by rw [← hzc]; exact c5)
      rw [← hzc] at hok
      obtain ⟨u, k1, k2, k3⟩ := hok.2 j c hj
      refine ⟨u, k1, k2, k3, fun _ => ?_⟩
      rw [hzc] at hj
      obtain ⟨x, hx, hp⟩ := ofVal1_pv (w := w.drew) (A := A) hj
      have hx' : zv.cells[j]? = some x := by simpa using hx
      rw [k1] at hx'; cases hx'; exact hp
    have hsize : (Builtin.zeroCells zv.cells q ++ Builtin.zeroCells zv.cells (grownCap w q 0 e - q)).size = grownCap w q 0 e * P.cellsOf e := by
      rw [Array.size_append, size_zeroCells, size_zeroCells, hsz, ← Nat.add_mul]; congr 1; omega
    have hI' := hId.alloc key { z := P.cellsOf e, els := List.replicate q (zc P e), ty := e } _ (grownCap w q 0 e) rfl (by simp; exact hcap) hgm (fun row hr => by rw [List.eq_of_mem_replicate hr]; exact c3) hsize hcells
    simp only [Int.toNat_natCast]
    refine ⟨_, _, _, _, hr, hLd.trans (hId.later_alloc _), hId.xle_new key _ _, hI', ?_⟩
    exact .osl _ _ _ _ _ _ _ _ hcap (by simp [refsNew]) (by simp [refsNew]) (fun _ => by simp [refsNew, Hd.cap])
  · exact hc.elim
end
end Go.Sx
