/- A part of a proof; no conditions. -/
import Derived.SizedLaws
import Derived.Test.YtnpdjaikmdagmaaP10
import Derived.ProofKit
import Derived.Test.YtnpdjaikmdagmaaP19
import Derived.Test.YtnpdjaikmdagmaaP20
set_option linter.unusedSimpArgs false
set_option linter.unusedVariables false
set_option linter.unusedSectionVars false
section
/- Reading what a call is handed: data that can be read, as abstract values; the frame of a law that returns true. No conditions. -/
set_option linter.unusedSimpArgs false
namespace Go.Sx
open Go.RowKit
variable [Gls]

def tiles (P : Program) : List Field → Nat → Nat → Bool
  | [], o, n => o == n
  | fl :: r, o, n => fl.offset == o && tiles P r (o + P.cellsOf fl.type) n

/-- A type of plain data. -/
def plain (P : Program) : Nat → TypeId → Bool
  | 0, _ => false
  | f + 1, t => match P.underlying t with
    | some .bool => true
    | some (.int _) => true
    | some (.slice e) => decide (0 < P.cellsOf e) && plain P f e
    | some (.struct fs) => tiles P fs.toList 0 (P.cellsOf t) && fs.toList.all fun fl => plain P f fl.type
    | some (.array n e) => decide (n * P.cellsOf e = P.cellsOf t) && plain P f e
    | _ => false

/-- The cells' shape, by their type. -/
def tyV (P : Program) : Nat → TypeId → List V → Prop
  | 0, _, _ => False
  | f + 1, t, vs => match P.underlying t with
    | some .bool => ∃ b, vs = [.bool b]
    | some (.int k) => ∃ n, vs = [.int k n] ∧ (Lit.int k n).wf = true
    | some (.slice e) => ∃ els, vs = [.sl (P.cellsOf e) els] ∧ els.length ≤ maxLen ∧ els.length * P.bytesOf e ≤ reachBytes ∧ ∀ row ∈ els, tyV P f e row
    | some (.struct fs) => vs.length = P.cellsOf t ∧ ∀ fl ∈ fs.toList, tyV P f fl.type ((vs.drop fl.offset).take (P.cellsOf fl.type))
    | some (.array n e) => vs.length = P.cellsOf t ∧ ∀ i, i < n → tyV P f e ((vs.drop (i * P.cellsOf e)).take (P.cellsOf e))
    | _ => False

/-- Cells and what is known of them. -/
def CV (w : World) (vs : List V) (cs : List Value) : Prop := vs.length = cs.length ∧ ∀ i c, vs[i]? = some c → PV w (fun _ => False) c (cs.getD i und) ∧ (cs.getD i und).oneCell' = true

omit [Gls] in
theorem CV.nil (w : World) : CV w [] [] := ⟨rfl, fun i c h => by simp at h⟩
omit [Gls] in
theorem CV.append {w : World} {a b : List V} {x y : List Value} (h : CV w a x) (k : CV w b y) : CV w (a ++ b) (x ++ y) := by
  refine ⟨by simp [h.1, k.1], fun i c hc => ?_⟩
  rw [List.getElem?_append] at hc
  split at hc
  · rename_i hi
    have := h.2 i c hc
    rw [List.getD_eq_getElem?_getD, List.getElem?_append_left (by rw [← h.1]; exact hi), ← List.getD_eq_getElem?_getD]
    exact this
  · rename_i hi
    have := k.2 _ c hc
    rw [List.getD_eq_getElem?_getD, List.getElem?_append_right (by rw [← h.1]; omega), ← h.1, ← List.getD_eq_getElem?_getD]
    exact this
omit [Gls] in
theorem CV.one {w : World} {x : V} {v : Value} (h : PV w (fun _ => False) x v) (h1 : v.oneCell' = true) : CV w [x] [v] := by
  refine ⟨rfl, fun i c hc => ?_⟩
  cases i with
  | zero => simp at hc; subst hc; exact ⟨h, h1⟩
  | succ i => simp at hc

omit [Gls] in
theorem mapM_all {α β : Type} {f : α → Option β} : ∀ {l : List α} {ys : List β}, l.mapM f = some ys → ∀ x ∈ l, ∃ y, f x = some y
  | [], _, _, x, hx => by simp at hx
  | a :: l, ys, h, x, hx => by
    rw [List.mapM_cons] at h
    cases ha : f a with
    | none => simp [ha] at h
    | some b =>
      simp only [ha, Option.bind_eq_bind, Option.bind_some] at h
      cases hl : l.mapM f with
      | none => simp [hl] at h
      | some bs =>
        rcases List.mem_cons.1 hx with rfl | hx
        · exact ⟨b, ha⟩
        · exact mapM_all hl x hx

/-- No reading of these is heavier than memory. -/
def wOK {H : Type} (P : Program) (t : TypeId) (d : DataW H) : Prop := ∀ n ∈ d.weights P t, n ≤ reachBytes
omit [Gls] in
theorem wOK_each {α H : Type} {P : Program} {f : α → Option (DataW H × List MemPlace)} {ty : α → TypeId} : ∀ {l : List α} {ys : List (DataW H × List MemPlace)}, l.mapM f = some ys → (∀ n ∈ DataW.weightsEach P (l.map ty) (ys.map (·.1)), n ≤ reachBytes) → ∀ x ∈ l, ∃ y, f x = some y ∧ wOK P (ty x) y.1
  | [], _, _, _, x, hx => by simp at hx
  | a :: l, ys, h, hw, x, hx => by
    rw [List.mapM_cons] at h
    cases ha : f a with
    | none => simp [ha] at h
    | some b =>
      simp only [ha, Option.bind_eq_bind, Option.bind_some] at h
      cases hl : l.mapM f with
      | none => simp [hl] at h
      | some bs =>
        simp only [hl, Option.bind_some, Option.pure_def, Option.some.injEq] at h
        subst h
        simp only [List.map_cons, DataW.weightsEach, List.mem_append] at hw
        rcases List.mem_cons.1 hx with rfl | hx
        · exact ⟨b, ha, fun n hn => hw n (.inl hn)⟩
        · exact wOK_each hl (fun n hn => hw n (.inr hn)) x hx
omit [Gls] in
theorem wOK_all {H : Type} {P : Program} {e : TypeId} : ∀ {ds : List (DataW H)}, (∀ n ∈ DataW.weightsAll P e ds, n ≤ reachBytes) → ∀ d ∈ ds, wOK P e d
  | [], _, d, hd => by simp at hd
  | a :: ds, hw, d, hd => by
    simp only [DataW.weightsAll, List.mem_append] at hw
    rcases List.mem_cons.1 hd with rfl | hd
    · exact fun n hn => hw n (.inl hn)
    · exact wOK_all (fun n hn => hw n (.inr hn)) d hd
omit [Gls] in
theorem mapM_mem {α β : Type} {f : α → Option β} : ∀ {l : List α} {ys : List β}, l.mapM f = some ys → ∀ x ∈ l, ∃ y ∈ ys, f x = some y
  | [], _, _, x, hx => by simp at hx
  | a :: l, ys, h, x, hx => by
    rw [List.mapM_cons] at h
    cases ha : f a with
    | none => simp [ha] at h
    | some b =>
      simp only [ha, Option.bind_eq_bind, Option.bind_some] at h
      cases hl : l.mapM f with
      | none => simp [hl] at h
      | some bs =>
        simp only [hl, Option.bind_some, Option.pure_def, Option.some.injEq] at h
        subst h
        rcases List.mem_cons.1 hx with rfl | hx
        · exact ⟨b, by simp, ha⟩
        · obtain ⟨y, hy, e⟩ := mapM_mem hl x hx; exact ⟨y, by simp [hy], e⟩

section
variable {H : Type} {enc : TypeId × Value → H} {P : Program} {w : World} {base : Nat} {spare : Nat → Bool} {held : Bool}

omit [Gls] in
theorem struct_cells {f : Nat} {cs : List Value} (ih : ∀ (fl : Field), plain P f fl.type = true → ∀ (cs : List Value), (∃ fuel x, DataW.trod enc P w base spare held fuel fl.type cs = some x ∧ wOK P fl.type x.1) → cs.length = P.cellsOf fl.type → ∃ vs, CV w vs cs ∧ tyV P f fl.type vs) :
    ∀ (fs : List Field) (o n : Nat), tiles P fs o n = true → cs.length = n → o ≤ n → (∀ fl ∈ fs, plain P f fl.type = true ∧ ∃ fuel x, DataW.trod enc P w base spare held fuel fl.type ((cs.drop fl.offset).take (P.cellsOf fl.type)) = some x ∧ wOK P fl.type x.1) →
      ∃ vs, CV w vs (cs.drop o) ∧ (∀ fl ∈ fs, o ≤ fl.offset ∧ tyV P f fl.type ((vs.drop (fl.offset - o)).take (P.cellsOf fl.type)))
  | [], o, n, ht, hl, ho, _ => by
    simp only [tiles, beq_iff_eq] at ht
    refine ⟨[], ?_, by simp⟩
    rw [List.drop_eq_nil_of_le (by omega)]
    exact .nil w
  | fl :: fs, o, n, ht, hl, ho, hall => by
    simp only [tiles, Bool.and_eq_true, beq_iff_eq] at ht
    obtain ⟨rfl, ht⟩ := ht
    obtain ⟨hp, hr⟩ := hall fl (by simp)
    have hle : fl.offset + P.cellsOf fl.type ≤ n := by
      have : ∀ (fs : List Field) (o : Nat), tiles P fs o n = true → o ≤ n := by
        intro fs
        induction fs with
        | nil => intro o h; simp only [tiles, beq_iff_eq] at h; omega
        | cons g r ih2 => intro o h; simp only [tiles, Bool.and_eq_true, beq_iff_eq] at h; have := ih2 _ h.2; omega
      exact this fs _ ht
    have hlen : ((cs.drop fl.offset).take (P.cellsOf fl.type)).length = P.cellsOf fl.type := by simp; omega
    obtain ⟨v1, c1, t1⟩ := ih fl hp _ hr hlen
    obtain ⟨v2, c2, t2⟩ := struct_cells ih fs _ n ht hl hle (fun g hg => hall g (by simp [hg]))
    have hv1 : v1.length = P.cellsOf fl.type := by rw [c1.1, hlen]
    refine ⟨v1 ++ v2, ?_, fun g hg => ?_⟩
    · have := c1.append c2
      rwa [← List.drop_drop, List.take_append_drop] at this
    · rcases List.mem_cons.1 hg with rfl | hg
      · refine ⟨Nat.le_refl _, ?_⟩
        rw [Nat.sub_self, List.drop_zero, List.take_append_of_le_length (by omega), List.take_of_length_le (by omega)]
        exact t1
      · obtain ⟨h1, h2⟩ := t2 g hg
        refine ⟨by omega, ?_⟩
        rw [List.drop_append, List.drop_eq_nil_of_le (by omega), List.nil_append, hv1, show g.offset - fl.offset - P.cellsOf fl.type = g.offset - (fl.offset + P.cellsOf fl.type) by omega]
        exact h2

omit [Gls] in
theorem array_cells {f : Nat} {e : TypeId} {cs : List Value} (ih : ∀ (cs : List Value), (∃ fuel x, DataW.trod enc P w base spare held fuel e cs = some x ∧ wOK P e x.1) → cs.length = P.cellsOf e → ∃ vs, CV w vs cs ∧ tyV P f e vs) {n : Nat}
    (hl : cs.length = n * P.cellsOf e) (hall : ∀ i, i < n → ∃ fuel x, DataW.trod enc P w base spare held fuel e ((cs.drop (i * P.cellsOf e)).take (P.cellsOf e)) = some x ∧ wOK P e x.1) :
    ∀ k, k ≤ n → ∃ vs, CV w vs (cs.take (k * P.cellsOf e)) ∧ ∀ i, i < k → tyV P f e ((vs.drop (i * P.cellsOf e)).take (P.cellsOf e))
  | 0, _ => ⟨[], by simpa using CV.nil w, fun i h => by omega⟩
  | k + 1, hk => by
    obtain ⟨v1, c1, t1⟩ := array_cells ih hl hall k (by omega)
    have hlt : (k + 1) * P.cellsOf e ≤ n * P.cellsOf e := Nat.mul_le_mul_right _ hk
    rw [Nat.add_mul, Nat.one_mul] at hlt
    obtain ⟨v2, c2, t2⟩ := ih _ (hall k (by omega)) (by simp; omega)
    have hv1 : v1.length = k * P.cellsOf e := by rw [c1.1]; simp; omega
    have hv2 : v2.length = P.cellsOf e := by rw [c2.1]; simp; omega
    refine ⟨v1 ++ v2, ?_, fun i hi => ?_⟩
    · have := c1.append c2
      rw [Nat.add_mul, Nat.one_mul, List.take_add]
      exact this
    · by_cases hik : i < k
      · have h1 : (i + 1) * P.cellsOf e ≤ k * P.cellsOf e := Nat.mul_le_mul_right _ hik
        rw [Nat.add_mul, Nat.one_mul] at h1
        rw [List.drop_append_of_le_length (by omega), List.take_append_of_le_length (by simp; omega)]
        exact t1 i hik
      · have : i = k := by omega
        subst this
        rw [List.drop_append, List.drop_eq_nil_of_le (by omega), List.nil_append, hv1, Nat.sub_self, List.drop_zero, List.take_of_length_le (by omega)]
        exact t2

omit [Gls] in
theorem read_cells : ∀ (f : Nat) (t : TypeId) (cs : List Value), plain P f t = true → (∃ fuel x, DataW.trod enc P w base spare held fuel t cs = some x ∧ wOK P t x.1) → cs.length = P.cellsOf t → ∃ vs, CV w vs cs ∧ tyV P f t vs
  | 0, t, cs, hp, _, _ => by simp [plain] at hp
  | f + 1, t, cs, hp, ⟨fuel, x, hx, hwx⟩, hlen => by
    cases fuel with
    | zero => simp [DataW.trod] at hx
    | succ fuel =>
    simp only [plain] at hp
    cases hu : P.underlying t with
    | none => simp [hu] at hp
    | some u =>
    rw [hu] at hp
    simp only [tyV, hu]
    cases u <;> simp only at hp ⊢ <;> try (cases hp; done)
    case bool =>
      unfold DataW.trod at hx
      rw [hu] at hx
      split at hx <;> simp_all
      refine ⟨_, .one (.bool _) rfl, ?_⟩
      simp
    case int k =>
      unfold DataW.trod at hx
      rw [hu] at hx
      split at hx <;> simp_all
      obtain ⟨⟨rfl, h1⟩, _⟩ := hx
      exact ⟨_, .one (.int _ _) rfl, _, rfl, h1⟩
    case slice e =>
      simp only [Bool.and_eq_true, decide_eq_true_eq] at hp
      rcases DataW.trod_slice hu hx with ⟨rfl, rfl⟩ | ⟨a, len, cap, elems, rest, n, hn, rfl, rfl, hb, hl, hm, hlen2, hel, hsp, hns⟩
      · exact ⟨_, .one (.sl0 (P.cellsOf e) none 0) rfl, [], rfl, by simp, by simp, by simp⟩
      by_cases h0 : len = 0
      · subst h0
        exact ⟨_, .one (.sl0 (P.cellsOf e) (some a) cap) rfl, [], rfl, by simp, by simp, by simp⟩
      unfold wOK DataW.weights at hwx
      rw [hu] at hwx
      simp only [List.length_map, List.mem_cons, List.mem_append] at hwx
      have hbig := hwx _ (.inl rfl)
      have hbl : elems.length * P.bytesOf e ≤ reachBytes := Nat.le_trans (Nat.mul_le_mul_right _ (Nat.le_add_right _ _)) hbig
      have hwe : ∀ d ∈ elems.map (·.1), wOK P e d := wOK_all fun n hn => hwx n (.inr (.inl hn))
      have each : ∀ i, i < len → ∃ row vs, w.cells? base (a.add (i * P.cellsOf e)) (P.cellsOf e) = some row ∧ row.length = P.cellsOf e ∧ CV w vs row ∧ tyV P f e vs := by
        intro i hi
        have h1 := hel i hi
        have h2 : elems[i]? = some elems[i] := List.getElem?_eq_getElem (by omega)
        rw [h2, Option.bind_eq_some_iff] at h1
        obtain ⟨row, h3, h4⟩ := h1
        have h5 := (World.cells?_some h3).2.1
        obtain ⟨vs, c, ty⟩ := read_cells f e row hp.2 ⟨n, _, h4, hwe _ (List.mem_map.2 ⟨_, List.getElem_mem _, rfl⟩)⟩ h5
        exact ⟨row, vs, h3, h5, c, ty⟩
      obtain ⟨row0, _, g1, g2, _, _⟩ := each 0 (by omega)
      have hspot : a.spot = none := by
        have h3 := (World.cells?_some g1).2.2 0 hp.1
        simp only [Nat.zero_mul] at h3
        have h4 : row0[0]? = some row0[0] := List.getElem?_eq_getElem (by omega)
        have e0 : (a.add 0).add 0 = a := by simp [Addr.add]
        rw [h4, e0] at h3
        unfold World.cell? at h3
        split at h3
        · split at h3
          · cases h3
          · rename_i hs; simpa using hs
        · cases h3
      have hlt : a.block < w.heap.size := by
        have h3 := (World.cells?_some g1).2.2 0 hp.1
        simp only [Nat.zero_mul] at h3
        have h4 : row0[0]? = some row0[0] := List.getElem?_eq_getElem (by omega)
        have e0 : (a.add 0).add 0 = a := by simp [Addr.add]
        rw [h4, e0] at h3
        unfold World.cell? at h3
        split at h3
        · rename_i hh; exact (Array.getElem?_eq_some_iff.1 hh).1
        · cases h3
      have haddr : ∀ i j, (a.add (i * P.cellsOf e)).add j = ⟨a.block, a.off + i * P.cellsOf e + j, none⟩ := by
        intro i j
        obtain ⟨b, off, sp⟩ := a
        simp only at hspot
        subst hspot
        unfold Addr.add
        by_cases h1 : i * P.cellsOf e = 0
        · rw [if_pos h1]
          by_cases h2 : j = 0
          · rw [if_pos h2]; simp [h1, h2]
          · rw [if_neg h2]; simp [h1]
        · rw [if_neg h1]
          by_cases h2 : j = 0
          · rw [if_pos h2]; simp [h2]
          · rw [if_neg h2]
      -- the rows
      have rows : ∀ k, k ≤ len → ∃ els : List (List V), els.length = k ∧ ∀ i row, els[i]? = some row → tyV P f e row ∧ ∃ vs, w.cells? base (a.add (i * P.cellsOf e)) (P.cellsOf e) = some vs ∧ vs.length = P.cellsOf e ∧ CV w row vs := by
        intro k
        induction k with
        | zero => intro _; exact ⟨[], rfl, by simp⟩
        | succ k ih =>
          intro hk
          obtain ⟨els, h1, h2⟩ := ih (by omega)
          obtain ⟨row, vs, h3, h4, h5, h6⟩ := each k (by omega)
          refine ⟨els ++ [vs], by simp [h1], fun i r hr => ?_⟩
          rw [List.getElem?_append] at hr
          split at hr
          · exact h2 i r hr
          · rename_i hi
            have : i - els.length = 0 := by
              cases hd : i - els.length with
              | zero => rfl
              | succ m => rw [hd] at hr; simp at hr
            rw [this] at hr
            simp only [List.getElem?_cons_zero, Option.some.injEq] at hr
            subst hr
            have : i = k := by omega
            subst this
            exact ⟨h6, row, h3, h4, h5⟩
      obtain ⟨els, l1, l2⟩ := rows len (Nat.le_refl _)
      refine ⟨[.sl (P.cellsOf e) els], .one ?_ rfl, els, rfl, by omega, by rw [l1, ← hlen2]; exact hbl, fun row hrow => ?_⟩
      · have hcell : ∀ i j row c, els[i]? = some row → row[j]? = some c → ∃ u, w.cell? ⟨a.block, a.off + i * P.cellsOf e + j, none⟩ = some u ∧ u.oneCell' = true ∧ PV w (fun _ => False) c u := by
          intro i j row c hr hc
          obtain ⟨_, vs, k1, k2, k3⟩ := l2 i row hr
          obtain ⟨k4, k5⟩ := k3.2 j c hc
          have hj : j < P.cellsOf e := by have := (List.getElem?_eq_some_iff.1 hc).1; rw [k3.1, k2] at this; exact this
          have := (World.cells?_some k1).2.2 j hj
          rw [haddr, List.getElem?_eq_getElem (by omega)] at this
          refine ⟨_, this, ?_, ?_⟩
          · have e1 : vs.getD j und = vs[j] := by simp [List.getD, List.getElem?_eq_getElem (show j < vs.length by omega)]
            rw [← e1]; exact k5
          · have e1 : vs.getD j und = vs[j] := by simp [List.getD, List.getElem?_eq_getElem (show j < vs.length by omega)]
            rw [← e1]; exact k4
        have := PV.sl (w := w) (A := fun _ => False) (P.cellsOf e) els a.block a.off cap (fun i j => (w.cell? ⟨a.block, a.off + i * P.cellsOf e + j, none⟩).getD und) (by omega) hlt (fun h => h)
          (fun row hrow => by
            obtain ⟨i, hi⟩ := List.getElem?_of_mem hrow
            obtain ⟨_, vs, k1, k2, k3⟩ := l2 i row hi
            rw [k3.1, k2])
          (fun i j row c hr hc => by
            obtain ⟨u, k1, k2, k3⟩ := hcell i j row c hr hc
            rw [k1]; exact ⟨rfl, k2⟩)
          (fun i j row c hr hc => by
            obtain ⟨u, k1, k2, k3⟩ := hcell i j row c hr hc
            rw [k1]; exact k3)
        rw [l1] at this
        obtain ⟨b, off, sp⟩ := a
        simp only at hspot
        subst hspot
        exact this
      · obtain ⟨i, hi⟩ := List.getElem?_of_mem hrow
        exact (l2 i row hi).1
    case struct fs =>
      simp only [Bool.and_eq_true, List.all_eq_true] at hp
      unfold DataW.trod at hx
      rw [hu] at hx
      simp only at hx
      split at hx <;> try (simp_all; done)
      rename_i hl
      simp only [Option.map_eq_some_iff] at hx
      obtain ⟨ys, hys, rfl⟩ := hx
      unfold wOK DataW.weights at hwx
      rw [hu] at hwx
      simp only at hwx
      obtain ⟨vs, c, ty⟩ := struct_cells (f := f) (fun fl hfl cs h1 h2 => read_cells f fl.type cs hfl h1 h2) fs.toList 0 (P.cellsOf t) hp.1 hl (Nat.zero_le _) (fun fl hfl => ⟨hp.2 fl hfl, fuel, wOK_each hys hwx fl hfl⟩)
      rw [List.drop_zero] at c
      exact ⟨vs, c, by rw [c.1, hl], fun fl hfl => by simpa using (ty fl hfl).2⟩
    case array n e =>
      simp only [Bool.and_eq_true, decide_eq_true_eq] at hp
      unfold DataW.trod at hx
      rw [hu] at hx
      simp only at hx
      split at hx <;> try (simp_all; done)
      rename_i hl
      simp only [Option.map_eq_some_iff] at hx
      obtain ⟨ys, hys, rfl⟩ := hx
      unfold wOK DataW.weights at hwx
      rw [hu] at hwx
      simp only at hwx
      obtain ⟨vs, c, ty⟩ := array_cells (f := f) (e := e) (fun cs h1 h2 => read_cells f e cs hp.2 h1 h2) (n := n) (by rw [hl, hp.1]) (fun i hi => ⟨fuel, by
        obtain ⟨y, hy, ey⟩ := mapM_mem hys i (by simpa using hi)
        exact ⟨y, ey, wOK_all hwx _ (List.mem_map.2 ⟨y, hy, rfl⟩)⟩⟩) n (Nat.le_refl _)
      rw [List.take_of_length_le (by rw [hl, hp.1]; exact Nat.le_refl _)] at c
      exact ⟨vs, c, by rw [c.1, hl], ty⟩
end

omit [Gls] in
theorem rows_map {α : Type} {R : α → List V} : ∀ {els : List (List V)}, (∀ row ∈ els, ∃ a, row = R a) → ∃ l : List α, els = l.map R
  | [], _ => ⟨[], rfl⟩
  | r :: els, h => by
    obtain ⟨a, ha⟩ := h r (by simp)
    obtain ⟨l, hl⟩ := rows_map (els := els) (fun row hr => h row (by simp [hr]))
    exact ⟨a :: l, by simp [ha, hl]⟩

/-- An argument's shape, by its type. -/
def argTy (P : Program) (g : Nat) (t : TypeId) (x : V) : Prop := if isAg P t = true then ∃ vs, x = .agg vs ∧ tyV P g t vs else tyV P g t [x]

def argB (P : Program) (g : Nat) (t : TypeId) : Bool := plain P g t && (isAg P t || P.cellsOf t == 1) && P.readableRec t && decide (t < P.types.size)

section
variable {H : Type} {enc : TypeId × Value → H} {P : Program} {w : World} {spare : Nat → Bool} {held : Bool}

omit [Gls] in
theorem arg_read {g : Nat} {t : TypeId} {v : Value} {d : DataW H} {ps : List MemPlace} {r : Reach} {b0 : Nat} (hb : argB P g t = true) (hok : Value.okWide P w r b0 t v) (hd : DataW.Trod enc P w 0 spare held t v d ps) (hwx : wOK P t d) :
    ∃ x, PV w (fun _ => False) x v ∧ argTy P g t x := by
  simp only [argB, Bool.and_eq_true, Bool.or_eq_true, beq_iff_eq] at hb
  obtain ⟨⟨⟨hp, hc⟩, _⟩, _⟩ := hb
  obtain ⟨fuel, hx⟩ := hd
  by_cases ha : isAg P t = true
  · have : ∃ cs, v = .agg cs ∧ cs.size = P.cellsOf t := by
      unfold Value.okWide at hok
      unfold isAg at ha
      cases hu : P.underlying t with
      | none => simp [hu] at ha
      | some u =>
        rw [hu] at hok ha
        cases u <;> simp at ha hok
        · obtain ⟨cs, h1, h2, _⟩ := hok; exact ⟨cs, h1, h2⟩
        · obtain ⟨cs, h1, h2, _⟩ := hok; exact ⟨cs, h1, h2⟩
    obtain ⟨cs, rfl, hs⟩ := this
    obtain ⟨vs, c, ty⟩ := read_cells g t cs.toList hp ⟨fuel, _, hx, hwx⟩ (by simpa using hs)
    refine ⟨.agg vs, .agg vs cs (by simpa using c.1.symm) fun i x hi => ?_, ?_⟩
    · have := (c.2 i x hi).1
      simpa [Array.getD_eq_getD_getElem?, List.getD_eq_getElem?_getD] using this
    · unfold argTy; rw [if_pos ha]; exact ⟨vs, rfl, ty⟩
  · have hc1 : P.cellsOf t = 1 := by rcases hc with h | h; exact absurd h ha; exact h
    have hv : v.cells.toList = [v] := by
      have hna : ∀ cs, v ≠ .agg cs := by
        rintro cs rfl
        unfold Value.okWide at hok
        unfold isAg at ha
        cases hu : P.underlying t with
        | none => cases g <;> simp [plain, hu] at hp
        | some u =>
          rw [hu] at hok ha
          cases u <;> simp [Cell.okWide, Cell.ok, hu] at ha hok
      cases v <;> first | rfl | exact absurd rfl (hna _)
    rw [hv] at hx
    obtain ⟨vs, c, ty⟩ := read_cells g t [v] hp ⟨fuel, _, hx, hwx⟩ (by simp [hc1])
    have hl := c.1
    cases vs with
    | nil => simp at hl
    | cons x r =>
      have : r = [] := List.eq_nil_of_length_eq_zero (by simpa using hl)
      subst this
      refine ⟨x, by simpa using (c.2 0 x rfl).1, ?_⟩
      unfold argTy; rw [if_neg ha]; exact ty

omit [Gls] in
theorem args_read {g : Nat} {r : Reach} {b0 : Nat} : ∀ (ts : List TypeId) (vs : List Value) (ds : List (DataW H)) (ps : List MemPlace), DataW.TrodAll enc P w 0 spare held ts vs ds ps → (∀ n ∈ DataW.weightsEach P ts ds, n ≤ reachBytes) → (∀ (j : Nat) t v, ts[j]? = some t → vs[j]? = some v → Value.okWide P w r b0 t v) →
    (ts.all (argB P g)) = true → vs.length = ts.length ∧ ds.length = ts.length ∧ ∃ xs : List V, xs.length = ts.length ∧ (∀ (i : Nat) t x, ts[i]? = some t → xs[i]? = some x → argTy P g t x) ∧ ∀ (i : Nat) x, xs[i]? = some x → PV w (fun _ => False) x (vs.getD i und)
  | [], [], [], ps, _, _, _, _ => ⟨rfl, rfl, [], rfl, by simp, by simp⟩
  | t :: ts, v :: vs, d :: ds, ps, h, hwt, hok, hb => by
    obtain ⟨p, q, h1, h2, _⟩ := h
    simp only [DataW.weightsEach, List.mem_append] at hwt
    simp only [List.all_cons, Bool.and_eq_true] at hb
    obtain ⟨x, hx, hty⟩ := arg_read hb.1 (hok 0 t v rfl rfl) h1 (fun n hn => hwt n (.inl hn))
    obtain ⟨e1, e2, xs, e3, e4, e5⟩ := args_read ts vs ds q h2 (fun n hn => hwt n (.inr hn)) (fun j t v ht hv => hok (j + 1) t v (by simpa using ht) (by simpa using hv)) hb.2
    refine ⟨by simp [e1], by simp [e2], x :: xs, by simp [e3], ?_, ?_⟩
    · intro i t' x' ht hx'
      cases i with
      | zero => simp at ht hx'; subst ht hx'; exact hty
      | succ i => exact e4 i t' x' (by simpa using ht) (by simpa using hx')
    · intro i x' hx'
      cases i with
      | zero => simp at hx'; subst hx'; simpa using hx
      | succ i => simpa using e5 i x' (by simpa using hx')
  | [], _ :: _, _, _, h, _, _, _ => h.elim
  | [], [], _ :: _, _, h, _, _, _ => h.elim
  | _ :: _, [], _, _, h, _, _, _ => h.elim
  | _ :: _, _ :: _, [], _, h, _, _, _ => h.elim

omit [Gls] in
theorem args_below {g : Nat} {w' : World} (hl : laidOutB P = true) (hb : Below w.heap.size w w') : ∀ (ts : List TypeId) (vs : List Value) (ds : List (DataW H)) (ps : List MemPlace), DataW.TrodAll enc P w 0 (fun _ => true) true ts vs ds ps → (ts.all (argB P g)) = true → (∀ x ∈ ps, x.block < w.heap.size) →
    DataW.TrodAll enc P w' 0 (fun b => decide (b < w.heap.size)) true ts vs ds ps
  | [], [], [], ps, h, _, _ => h
  | t :: ts, v :: vs, d :: ds, ps, h, ha, hlt => by
    obtain ⟨p, q, h1, h2, rfl⟩ := h
    simp only [List.all_cons, Bool.and_eq_true] at ha
    have h3 := ha.1
    simp only [argB, Bool.and_eq_true, decide_eq_true_eq] at h3
    exact ⟨p, q, Below.trod hl h3.1.2 h3.2 h1 hb (fun x hx => hlt x (by simp [hx])), args_below hl hb ts vs ds q h2 ha.2 (fun x hx => hlt x (by simp [hx])), rfl⟩
  | [], _ :: _, _, _, h, _, _ => h.elim
  | [], [], _ :: _, _, h, _, _ => h.elim
  | _ :: _, [], _, _, h, _, _ => h.elim
  | _ :: _, _ :: _, [], _, h, _, _ => h.elim

end

/-- A law: whatever it is handed, it returns true, and all that was there is as it was. -/
theorem law_lifted {C : Checked} {os : Os} (started : os.Started) {H : Type} {enc : TypeId × Value → H} {f : FuncId} {fn : Func} {s : ChangeSpec} {S : PSpec} (g : Nat) (tb : TypeId)
    (hG0 : ∀ g, Gls.G g = none) (hown : ownKnob C.prog.godebug = none) (hl : laidOutB C.prog = true) (hin : C.prog.inits.idxOf? f = none) (hf : C.prog.funcs[f]? = some fn) (hOK : FnOK C.prog f (.pure S))
    (hvars : s.vars = []) (hspec : ∀ ds : List (DataW H), ds.length = fn.params.size → s.fn H ds = { results := [.lit (.bool true)], args := ds })
    (hrt : fn.resultTypes = #[tb]) (htb : C.prog.underlying tb = some .bool) (hpl : fn.params.toList.all (argB C.prog g) = true)
    (hopen : ∀ xs : List V, xs.length = fn.params.size → (∀ (i : Nat) t x, fn.params.toList[i]? = some t → xs[i]? = some x → argTy C.prog g t x) → ∃ d, S.pre d ∧ S.res d = .bool true ∧ S.enc d = xs)
    (witness : ∃ (w : World) (tape : Tape) (i : Input), w.os = os ∧ (w.forCall tape i).Shaped C.prog ∧ i.vars = [] ∧ Input.okWide C.prog (w.forCall tape i) .any w.heap.size f i ∧
      s.pre6 enc C.prog fn [] false (w.forCall tape i).memory i.args ∧ ({} : Assume).holds C.prog (lone (Frame.enter C.prog f i.args .normal) [] (w.forCall tape i))) :
    ReturnsInHanded {} C os f .any (s.pre6 enc C.prog fn [] false) (s.post enc C.prog fn false true false false) := by
  refine returnsInHanded_of_change_sized hown started hin hf witness ?_
  intro W base args ds gs before hval hW _ hwt _
  have hW' := hW
  obtain ⟨p, q, hA, hV, rfl, hfz, hnd⟩ := hW
  rw [hvars] at hV
  have hgs : gs = [] ∧ q = [] := by
    cases gs with
    | nil => exact ⟨rfl, hV⟩
    | cons a b => exact hV.elim
  obtain ⟨rfl, rfl⟩ := hgs
  rw [show s.plain.varTypes C.prog = [] by unfold ChangeSpec.plain DataSpec.varTypes; simp [hvars], List.append_nil, List.append_nil, List.all_eq_true] at hwt
  obtain ⟨e1, e2, xs, e3, e4, e5⟩ := args_read (g := g) _ _ _ _ hA (fun n hn => by simpa using hwt n hn) (fun j t v ht hv => hval j t v (by simpa using ht) (by simpa using hv)) hpl
  obtain ⟨d, hd1, hd2, hd3⟩ := hopen xs (by simpa using e3) e4
  refine ((hOK.pure S rfl) d hd1 W (fun _ => False) args (fun g v hg => by rw [hG0] at hg; cases hg) (fun _ h => h.elim) (by rw [hd3, e3]; simpa using e1) (fun i c hc => ?_)).mono fun e W' hres => ?_
  · rw [hd3] at hc
    have := e5 i c hc
    simpa [Array.getD_eq_getD_getElem?, List.getD_eq_getElem?_getD] using this
  obtain ⟨v, rfl, hb, hv⟩ := hres
  rw [hd2] at hv
  cases hv
  refine ⟨_, rfl, ds, [], p ++ [], [], p, [], hW', ?_, ?_, ?_, hb.frame _, fun h => by cases h⟩
  · rw [hrt]
    have h1 : s.fn H (ds ++ []) = { results := [.lit (.bool true)], args := ds } := by rw [List.append_nil]; exact hspec ds (by simpa using e2)
    rw [h1]
    exact ⟨[], [], shut_bool htb true, rfl, rfl⟩
  · have h1 : s.fn H (ds ++ []) = { results := [.lit (.bool true)], args := ds } := by rw [List.append_nil]; exact hspec ds (by simpa using e2)
    rw [h1]
    exact args_below hl hb _ _ _ _ hA hpl (fun x hx => hW'.lt x (by simpa using hx))
  · rw [hvars]
    have h1 : s.fn H (ds ++ []) = { results := [.lit (.bool true)], args := ds } := by rw [List.append_nil]; exact hspec ds (by simpa using e2)
    rw [h1]
    exact rfl
end Go.Sx
end
section
/- What arguments read as, for any seat. No conditions. -/
set_option linter.unusedSimpArgs false
set_option maxRecDepth 100000
namespace Go.Sx
open Go.RowKit
variable [Gls]

section
variable {P : Program} {g : Nat} {t : TypeId} {vs : List V}
theorem tyV_fld {k o : Nat} {ft : TypeId} (h : tyV P (g + 1) t vs) (hf : fld P t k = some (o, ft)) : tyV P g ft ((vs.drop o).take (P.cellsOf ft)) := by
  simp only [tyV] at h
  unfold fld at hf
  cases hu : P.underlying t with
  | none => simp [hu] at hf
  | some u =>
    rw [hu] at h hf
    cases u <;> simp only at h hf <;> try (cases hf; done)
    rename_i fs
    cases hk : fs[k]? with
    | none => simp [hk] at hf
    | some fl =>
      simp only [hk, Option.map_some, Option.some.injEq, Prod.mk.injEq] at hf
      obtain ⟨rfl, rfl⟩ := hf
      exact h.2 fl (Array.mem_toList_iff.2 (Array.mem_of_getElem? hk))
theorem tyV_len (h : tyV P (g + 1) t vs) (ha : isAg P t = true) : vs.length = P.cellsOf t := by
  simp only [tyV] at h
  unfold isAg at ha
  cases hu : P.underlying t with
  | none => simp [hu] at ha
  | some u =>
    rw [hu] at h ha
    cases u <;> simp only at h ha <;> first | (cases ha; done) | exact h.1
theorem tyV_int {k : IntKind} (h : tyV P (g + 1) t vs) (hk : intK P t = some k) : ∃ n, vs = [.int k n] ∧ (Lit.int k n).wf = true := by
  simp only [tyV] at h
  unfold intK at hk
  cases hu : P.underlying t with
  | none => simp [hu] at hk
  | some u =>
    rw [hu] at h hk
    cases u <;> simp only at h hk <;> try (cases hk; done)
    cases hk
    exact h
theorem tyV_sl {e : TypeId} (h : tyV P (g + 1) t vs) (hk : slEl P t = some e) : ∃ els, vs = [.sl (P.cellsOf e) els] ∧ els.length ≤ 9223372036854775807 ∧ ∀ row ∈ els, tyV P g e row := by
  simp only [tyV] at h
  unfold slEl at hk
  cases hu : P.underlying t with
  | none => simp [hu] at hk
  | some u =>
    rw [hu] at h hk
    cases u <;> simp only at h hk <;> try (cases hk; done)
    cases hk
    obtain ⟨els, h1, h2, _, h3⟩ := h
    exact ⟨els, h1, by simpa [maxLen] using h2, h3⟩
/-- The same, with the bound of memory. -/
theorem tyV_slw {e : TypeId} (h : tyV P (g + 1) t vs) (hk : slEl P t = some e) : ∃ els, vs = [.sl (P.cellsOf e) els] ∧ els.length * P.bytesOf e ≤ 140737488351232 ∧ ∀ row ∈ els, tyV P g e row := by
  simp only [tyV] at h
  unfold slEl at hk
  cases hu : P.underlying t with
  | none => simp [hu] at hk
  | some u =>
    rw [hu] at h hk
    cases u <;> simp only at h hk <;> try (cases hk; done)
    cases hk
    obtain ⟨els, h1, _, h2, h3⟩ := h
    exact ⟨els, h1, by simpa [reachBytes] using h2, h3⟩
theorem tyV_arr {n : Nat} {e : TypeId} (h : tyV P (g + 1) t vs) (hk : arEl P t = some (n, e)) : ∀ i, i < n → tyV P g e ((vs.drop (i * P.cellsOf e)).take (P.cellsOf e)) := by
  simp only [tyV] at h
  unfold arEl at hk
  cases hu : P.underlying t with
  | none => simp [hu] at hk
  | some u =>
    rw [hu] at h hk
    cases u <;> simp only at h hk <;> try (cases hk; done)
    cases hk
    exact h.2
theorem argTy_one {x : V} (h : argTy P g t x) (ha : isAg P t = false) : tyV P g t [x] := by
  unfold argTy at h; rw [if_neg (by rw [ha]; decide)] at h; exact h
theorem argTy_agg {x : V} (h : argTy P g t x) (ha : isAg P t = true) : ∃ vs, x = .agg vs ∧ tyV P g t vs := by
  unfold argTy at h; rw [if_pos ha] at h; exact h
end

end Go.Sx
end
section
/- Crew: what the arguments of the laws read as. No conditions. -/
set_option linter.unusedSimpArgs false
set_option linter.unusedSectionVars false
set_option maxRecDepth 100000
namespace Go.Sx
open Go.Proofs Go.RowKit

/-- A number of the machine. -/
def I64 (n : Int) : Prop := -9223372036854775808 ≤ n ∧ n ≤ 9223372036854775807
theorem tyV_bool {P : Program} {g : Nat} {t : TypeId} {vs : List V} (h : tyV P (g + 1) t vs) (hk : P.underlying t = some .bool) : ∃ b, vs = [.bool b] := by
  simp only [tyV, hk] at h; exact h
theorem int_cellb {g : Nat} {vs : List V} (h : tyV Try.prog (g + 1) 3 vs) : ∃ n, vs = [.int .i64 n] ∧ I64 n := by
  obtain ⟨n, h1, h2⟩ := tyV_int h Ty.ik3
  refine ⟨n, h1, ?_⟩
  have h3 : IntKind.i64.min ≤ n ∧ n ≤ IntKind.i64.max := by simpa only [Lit.wf, Bool.and_eq_true, decide_eq_true_eq] using h2
  rwa [show IntKind.i64.min = -9223372036854775808 by decide, show IntKind.i64.max = 9223372036854775807 by decide] at h3
theorem int_cell {g : Nat} {vs : List V} (h : tyV Try.prog (g + 1) 3 vs) : ∃ n, vs = [.int .i64 n] := by
  obtain ⟨n, h1, _⟩ := int_cellb h; exact ⟨n, h1⟩
theorem bool_cell {g : Nat} {vs : List V} (h : tyV Try.prog (g + 1) 4 vs) : ∃ n, vs = [.bool n] := tyV_bool h (by kernel_rfl)
theorem int_of {g : Nat} {x : V} (h : argTy Try.prog (g + 1) 3 x) : ∃ n, x = .int .i64 n := by
  obtain ⟨n, h1⟩ := int_cell (argTy_one h Ty.ag3)
  exact ⟨n, by simpa using h1⟩
theorem ints_cell {g : Nat} {vs : List V} (h : tyV Try.prog (g + 2) 24 vs) : ∃ l : List Int, vs = [ints l] ∧ l.length ≤ 17592186043904 := by
  obtain ⟨els, h1, h2, h3⟩ := tyV_slw h Ty.se24
  obtain ⟨l, hl⟩ := rows_map (R := ri) (els := els) (fun row hr => int_cell (h3 row hr))
  subst hl
  rw [Ty.cz3] at h1
  rw [Ty.by3] at h2
  exact ⟨l, h1, by simp at h2; omega⟩
theorem gu_cell {g : Nat} {vs : List V} (h : tyV Try.prog (g + 2) 88 vs) : ∃ p : Gu, vs = Gu.row p := by
  have hl := tyV_len h Ty.ag88
  rw [Ty.cz88] at hl
  obtain ⟨n0, e0⟩ := int_cell (tyV_fld h Ty.fd88_0)
  obtain ⟨n1, e1⟩ := bool_cell (tyV_fld h Ty.fd88_1)
  obtain ⟨n2, e2⟩ := int_cell (tyV_fld h Ty.fd88_2)
  obtain ⟨n3, e3⟩ := bool_cell (tyV_fld h Ty.fd88_3)
  rw [Ty.cz3] at e0 e2
  rw [Ty.cz4] at e1 e3
  match vs, hl with
  | [x0, x1, x2, x3], _ =>
    simp at e0 e1 e2 e3
    subst e0 e1 e2 e3
    exact ⟨⟨n0, n1, n2, n3⟩, rfl⟩
theorem gus_of {g : Nat} {x : V} (h : argTy Try.prog (g + 3) 22 x) : ∃ l : List Gu, x = .sl 4 (l.map Gu.row) := by
  obtain ⟨els, h1, h2, h3⟩ := tyV_slw (argTy_one h Ty.ag22) Ty.se22
  obtain ⟨l, hl⟩ := rows_map (R := Gu.row) (els := els) (fun row hr => gu_cell (h3 row hr))
  subst hl
  rw [Ty.cz88] at h1
  exact ⟨l, by simpa using h1⟩
theorem pn_cell {g : Nat} {vs : List V} (h : tyV Try.prog (g + 2) 69 vs) : ∃ p : Pn, vs = Pn.row p := by
  have hl := tyV_len h Ty.ag69
  rw [Ty.cz69] at hl
  obtain ⟨n0, e0⟩ := int_cell (tyV_fld h Ty.fd69_0)
  obtain ⟨n1, e1⟩ := int_cell (tyV_fld h Ty.fd69_1)
  obtain ⟨n2, e2⟩ := int_cell (tyV_fld h Ty.fd69_2)
  rw [Ty.cz3] at e0 e1 e2
  match vs, hl with
  | [x0, x1, x2], _ =>
    simp at e0 e1 e2
    subst e0 e1 e2
    exact ⟨⟨n0, n1, n2⟩, rfl⟩
abbrev DuI : Type := { d : Du // I64 d.a ∧ I64 d.b }
theorem du_cell {g : Nat} {vs : List V} (h : tyV Try.prog (g + 2) 66 vs) : ∃ p : DuI, vs = Du.row p.1 := by
  have hl := tyV_len h Ty.ag66
  rw [Ty.cz66] at hl
  obtain ⟨n0, e0⟩ := int_cell (tyV_fld h Ty.fd66_0)
  obtain ⟨n1, e1, b1⟩ := int_cellb (tyV_fld h Ty.fd66_1)
  obtain ⟨n2, e2, b2⟩ := int_cellb (tyV_fld h Ty.fd66_2)
  rw [Ty.cz3] at e0 e1 e2
  match vs, hl with
  | [x0, x1, x2], _ =>
    simp at e0 e1 e2
    subst e0 e1 e2
    exact ⟨⟨⟨n0, n1, n2⟩, b1, b2⟩, rfl⟩
theorem dus_of {g : Nat} {x : V} (h : argTy Try.prog (g + 3) 34 x) : ∃ l : List Du, x = .sl 3 (l.map Du.row) ∧ ∀ d ∈ l, I64 d.a ∧ I64 d.b := by
  obtain ⟨els, h1, h2, h3⟩ := tyV_slw (argTy_one h Ty.ag34) Ty.se34
  obtain ⟨l, hl⟩ := rows_map (R := fun d : DuI => Du.row d.1) (els := els) (fun row hr => du_cell (h3 row hr))
  subst hl
  rw [Ty.cz66] at h1
  refine ⟨l.map (·.1), ?_, fun d hd => ?_⟩
  · rw [List.map_map]; simpa using h1
  · obtain ⟨e, _, rfl⟩ := List.mem_map.1 hd
    exact e.2
theorem ro_of {g : Nat} {x : V} (h : argTy Try.prog (g + 4) 33 x) : ∃ r : Ro, x = .agg r.row := by
  obtain ⟨vs, e, k⟩ := argTy_agg h Ty.ag33
  subst e
  have hl := tyV_len k Ty.ag33
  rw [Ty.cz33] at hl
  obtain ⟨els, e0, _, h3⟩ := tyV_slw (tyV_fld k Ty.fd33_0) Ty.se31
  obtain ⟨l, hl2⟩ := rows_map (R := Pn.row) (els := els) (fun row hr => pn_cell (h3 row hr))
  subst hl2
  obtain ⟨n1, e1⟩ := int_cell (tyV_fld k Ty.fd33_1)
  obtain ⟨n2, e2⟩ := int_cell (tyV_fld k Ty.fd33_2)
  obtain ⟨n3, e3⟩ := int_cell (tyV_fld k Ty.fd33_3)
  obtain ⟨n4, e4⟩ := int_cell (tyV_fld k Ty.fd33_4)
  obtain ⟨n5, e5⟩ := int_cell (tyV_fld k Ty.fd33_5)
  rw [Ty.cz3] at e1 e2 e3 e4 e5
  rw [Ty.cz31, Ty.cz69] at e0
  match vs, hl with
  | [x0, x1, x2, x3, x4, x5], _ =>
    simp at e0 e1 e2 e3 e4 e5
    subst e0 e1 e2 e3 e4 e5
    exact ⟨⟨l, n1, n2, n3, n4, n5⟩, rfl⟩
theorem se_cell {g : Nat} {vs : List V} (h : tyV Try.prog (g + 2) 115 vs) : ∃ p : Se, vs = Se.row p := by
  have hl := tyV_len h Ty.ag115
  rw [Ty.cz115] at hl
  obtain ⟨n0, e0⟩ := int_cell (tyV_fld h Ty.fd115_0)
  obtain ⟨n1, e1⟩ := bool_cell (tyV_fld h Ty.fd115_1)
  rw [Ty.cz3] at e0
  rw [Ty.cz4] at e1
  match vs, hl with
  | [x0, x1], _ =>
    simp at e0 e1
    subst e0 e1
    exact ⟨⟨n0, n1⟩, rfl⟩
theorem ca_of {g : Nat} {x : V} (h : argTy Try.prog (g + 4) 49 x) : ∃ r : Ca, x = .agg r.row := by
  obtain ⟨vs, e, k⟩ := argTy_agg h Ty.ag49
  subst e
  have hl := tyV_len k Ty.ag49
  rw [Ty.cz49] at hl
  obtain ⟨els, e2, _, h3⟩ := tyV_slw (tyV_fld k Ty.fd49_2) Ty.se47
  obtain ⟨l, hl2⟩ := rows_map (R := Se.row) (els := els) (fun row hr => se_cell (h3 row hr))
  subst hl2
  obtain ⟨n0, e0⟩ := int_cell (tyV_fld k Ty.fd49_0)
  obtain ⟨n1, e1⟩ := int_cell (tyV_fld k Ty.fd49_1)
  obtain ⟨n3, e3⟩ := int_cell (tyV_fld k Ty.fd49_3)
  obtain ⟨n4, e4⟩ := int_cell (tyV_fld k Ty.fd49_4)
  obtain ⟨n5, e5⟩ := int_cell (tyV_fld k Ty.fd49_5)
  rw [Ty.cz3] at e0 e1 e3 e4 e5
  rw [Ty.cz47, Ty.cz115] at e2
  match vs, hl with
  | [x0, x1, x2, x3, x4, x5], _ =>
    simp at e0 e1 e2 e3 e4 e5
    subst e0 e1 e2 e3 e4 e5
    exact ⟨⟨n0, n1, l, n3, n4, n5⟩, rfl⟩
theorem cl_cell {g : Nat} {vs : List V} (h : tyV Try.prog (g + 2) 36 vs) : ∃ p : Cl, vs = Cl.row p ∧ I64 p.a ∧ I64 p.b := by
  have hl := tyV_len h Ty.ag36
  rw [Ty.cz36] at hl
  obtain ⟨n0, e0, b0⟩ := int_cellb (tyV_fld h Ty.fd36_0)
  obtain ⟨n1, e1, b1⟩ := int_cellb (tyV_fld h Ty.fd36_1)
  obtain ⟨n2, e2⟩ := int_cell (tyV_fld h Ty.fd36_2)
  obtain ⟨n3, e3⟩ := bool_cell (tyV_fld h Ty.fd36_3)
  rw [Ty.cz3] at e0 e1 e2
  rw [Ty.cz4] at e3
  match vs, hl with
  | [x0, x1, x2, x3], _ =>
    simp at e0 e1 e2 e3
    subst e0 e1 e2 e3
    exact ⟨⟨n0, n1, n2, n3⟩, rfl, b0, b1⟩
theorem cl_of {g : Nat} {x : V} (h : argTy Try.prog (g + 2) 36 x) : ∃ c : Cl, x = .agg c.row ∧ I64 c.a ∧ I64 c.b := by
  obtain ⟨vs, e, k⟩ := argTy_agg h Ty.ag36
  obtain ⟨c, hc, b⟩ := cl_cell k
  exact ⟨c, by rw [e, hc], b⟩
structure Nd where
  c : Cl
  n : Int
  deriving Inhabited
def Nd.row (d : Nd) : List V := [.int .i64 d.c.a, .int .i64 d.c.b, .int .i64 d.c.craft, .bool d.c.water, .int .i64 d.n]
theorem nd_cell {g : Nat} {vs : List V} (h : tyV Try.prog (g + 3) 38 vs) : ∃ p : Nd, vs = Nd.row p ∧ I64 p.c.a ∧ I64 p.c.b := by
  have hl := tyV_len h Ty.ag38
  rw [Ty.cz38] at hl
  obtain ⟨c, e0, b⟩ := cl_cell (tyV_fld h Ty.fd38_0)
  obtain ⟨n1, e1⟩ := int_cell (tyV_fld h Ty.fd38_1)
  rw [Ty.cz3] at e1
  rw [Ty.cz36] at e0
  match vs, hl with
  | [x0, x1, x2, x3, x4], _ =>
    simp [Cl.row] at e0 e1
    obtain ⟨rfl, rfl, rfl, rfl⟩ := e0
    subst e1
    exact ⟨⟨c, n1⟩, rfl, b⟩
structure Ez where
  d : Nd
  lng : Int
  rst : Int
  tot : Int
  rcn : Int
  deriving Inhabited
def Ez.row (e : Ez) : List V := [.int .i64 e.d.c.a, .int .i64 e.d.c.b, .int .i64 e.d.c.craft, .bool e.d.c.water, .int .i64 e.d.n, .int .i64 e.lng, .int .i64 e.rst, .int .i64 e.tot, .int .i64 e.rcn]
theorem ez_of {g : Nat} {x : V} (h : argTy Try.prog (g + 4) 40 x) : ∃ e : Ez, x = .agg e.row ∧ I64 e.d.c.a ∧ I64 e.d.c.b := by
  obtain ⟨vs, e, k⟩ := argTy_agg h Ty.ag40
  subst e
  have hl := tyV_len k Ty.ag40
  rw [Ty.cz40] at hl
  obtain ⟨c, e0, b⟩ := nd_cell (tyV_fld k Ty.fd40_0)
  obtain ⟨n1, e1⟩ := int_cell (tyV_fld k Ty.fd40_1)
  obtain ⟨n2, e2⟩ := int_cell (tyV_fld k Ty.fd40_2)
  obtain ⟨n3, e3⟩ := int_cell (tyV_fld k Ty.fd40_3)
  obtain ⟨n4, e4⟩ := int_cell (tyV_fld k Ty.fd40_4)
  rw [Ty.cz3] at e1 e2 e3 e4
  rw [Ty.cz38] at e0
  match vs, hl with
  | [x0, x1, x2, x3, x4, x5, x6, x7, x8], _ =>
    simp [Nd.row] at e0 e1 e2 e3 e4
    obtain ⟨rfl, rfl, rfl, rfl, rfl⟩ := e0
    subst e1 e2 e3 e4
    exact ⟨⟨c, n1, n2, n3, n4⟩, rfl, b⟩
theorem sp_cell {g : Nat} {vs : List V} (h : tyV Try.prog (g + 2) 51 vs) : ∃ p : Sp, vs = Sp.row p := by
  have hl := tyV_len h Ty.ag51
  rw [Ty.cz51] at hl
  obtain ⟨n0, e0⟩ := int_cell (tyV_fld h Ty.fd51_0)
  obtain ⟨n1, e1⟩ := int_cell (tyV_fld h Ty.fd51_1)
  rw [Ty.cz3] at e0 e1
  match vs, hl with
  | [x0, x1], _ =>
    simp at e0 e1
    subst e0 e1
    exact ⟨⟨n0, n1⟩, rfl⟩
structure Pl where
  f : Sp
  s : List Int
  deriving Inhabited
def Pl.row (p : Pl) : List V := [.int .i64 p.f.lo, .int .i64 p.f.hi, .sl 1 (p.s.map ri)]
theorem Pl.row_inj (a b : Pl) (h : a.row = b.row) : a = b := by
  obtain ⟨⟨a1, a2⟩, a3⟩ := a; obtain ⟨⟨b1, b2⟩, b3⟩ := b
  simp only [Pl.row, List.cons.injEq, V.sl.injEq, V.int.injEq, true_and, and_true] at h
  rw [h.1, h.2.1, map_ri_inj h.2.2]
theorem pl_cell {g : Nat} {vs : List V} (h : tyV Try.prog (g + 3) 53 vs) : ∃ p : Pl, vs = Pl.row p := by
  have hl := tyV_len h Ty.ag53
  rw [Ty.cz53] at hl
  obtain ⟨f, e0⟩ := sp_cell (tyV_fld h Ty.fd53_0)
  obtain ⟨s, e1, _⟩ := ints_cell (tyV_fld h Ty.fd53_1)
  rw [Ty.cz51] at e0
  rw [Ty.cz24] at e1
  match vs, hl with
  | [x0, x1, x2], _ =>
    simp [Sp.row] at e0 e1
    obtain ⟨rfl, rfl⟩ := e0
    subst e1
    exact ⟨⟨f, s⟩, rfl⟩
theorem pl_of {g : Nat} {x : V} (h : argTy Try.prog (g + 3) 53 x) : ∃ c : Pl, x = .agg c.row := by
  obtain ⟨vs, e, k⟩ := argTy_agg h Ty.ag53
  obtain ⟨c, hc⟩ := pl_cell k
  exact ⟨c, by rw [e, hc]⟩
structure So where
  p : Pl
  x : Int
  y : Int
  deriving Inhabited
def So.row (o : So) : List V := [.int .i64 o.p.f.lo, .int .i64 o.p.f.hi, .sl 1 (o.p.s.map ri), .int .i64 o.x, .int .i64 o.y]
theorem So.row_inj (a b : So) (h : a.row = b.row) : a = b := by
  obtain ⟨⟨⟨a1, a2⟩, a3⟩, a4, a5⟩ := a; obtain ⟨⟨⟨b1, b2⟩, b3⟩, b4, b5⟩ := b
  simp only [So.row, List.cons.injEq, V.sl.injEq, V.int.injEq, true_and, and_true] at h
  rw [h.1, h.2.1, map_ri_inj h.2.2.1, h.2.2.2.1, h.2.2.2.2]
theorem so_of {g : Nat} {x : V} (h : argTy Try.prog (g + 4) 72 x) : ∃ c : So, x = .agg c.row ∧ I64 c.x ∧ I64 c.y := by
  obtain ⟨vs, e, k⟩ := argTy_agg h Ty.ag72
  subst e
  have hl := tyV_len k Ty.ag72
  rw [Ty.cz72] at hl
  obtain ⟨p, e0⟩ := pl_cell (tyV_fld k Ty.fd72_0)
  have h67 := tyV_fld k Ty.fd72_1
  have ha := tyV_arr h67 Ty.ae67
  obtain ⟨a, ea, ba⟩ := int_cellb (ha 0 (by omega))
  obtain ⟨b, eb, bb⟩ := int_cellb (ha 1 (by omega))
  rw [Ty.cz3, Ty.cz67] at ea eb
  rw [Ty.cz53] at e0
  match vs, hl with
  | [x0, x1, x2, x3, x4], _ =>
    simp [Pl.row] at e0 ea eb
    obtain ⟨rfl, rfl, rfl⟩ := e0
    subst ea eb
    exact ⟨⟨p, a, b⟩, rfl, ba, bb⟩
end Go.Sx
end
section
/- Crew: the law of the seatings. No conditions. -/
set_option linter.unusedSimpArgs false
set_option linter.unusedSectionVars false
set_option maxRecDepth 100000
set_option maxHeartbeats 2000000
namespace Go.Sx
open Go.Proofs
attribute [local irreducible] HLe

/-- No right seating that is balanced comes before the first. -/
structure Fst (a s : List Int) : Prop where
  len : a.length = s.length
  lt : ∀ i, i < a.length → (∀ j, j < i → a.getD j 0 = s.getD j 0) → a.getD i 0 ≠ s.getD i 0 → a.getD i 0 < s.getD i 0
theorem take_getD {a s : List Int} {i j : Nat} (h : a.take i = s.take i) (hj : j < i) : a.getD j 0 = s.getD j 0 := by
  have := congrArg (fun l => l.getD j 0) h
  simpa [List.getD, List.getElem?_take, hj] using this
theorem sit_first {c : Ca} {l : List Gu} {f : Sp} {s : List Int} (h : seaE c l s f = 0) (hb : balB c l f s = true) : (sitE c l f).2 = 0 ∧ Fst (sitE c l f).1 s := by
  have hF := pfit_of h
  have hl : lodE c l f = 0 := by
    unfold seaE at h
    split at h
    · assumption
    · rename_i h1; exact absurd h h1
  obtain ⟨a, ha, hor⟩ := sitF_first hF.s hb l.length [] (by simp) (by simp)
  obtain ⟨k1, _, _⟩ := sitF_sound l.length [] a (by simp) (fun i hi => by simp at hi) ha
  have hO : sitO c l f = some a := ha
  have hE : sitE c l f = (a, 0) := by unfold sitE; rw [if_pos hl, hO]
  have l1 := (seat_of k1).1
  have l2 := (seat_of hF.s).1
  simp only at l2
  rw [hE]
  refine ⟨rfl, l1.trans l2.symm, ?_⟩
  simp only
  intro i hi heq hne
  rcases hor with rfl | ⟨i0, _, h2, h3, h4⟩
  · exact absurd rfl hne
  · rcases Nat.lt_trichotomy i i0 with h | h | h
    · exact absurd (take_getD h3 h) hne
    · subst h; exact h4
    · have := heq i0 h
      rw [this] at h4
      exact absurd h4 (Int.lt_irrefl _)
theorem sitE_len (c : Ca) (l : List Gu) (f : Sp) : (sitE c l f).1.length ≤ l.length := by
  unfold sitE
  split
  · cases h : sitO c l f with
    | none => simp
    | some a =>
      obtain ⟨k1, _, _⟩ := sitF_sound l.length [] a (by simp) (fun i hi => by simp at hi) h
      have := (seat_of k1).1
      simp only; omega
  · simp
@[simp] def plE (d : Ca × List Gu × Pl) : List V := [.agg d.1.row, .sl 4 (d.2.1.map Gu.row), .agg d.2.2.row]
noncomputable abbrev trueSitS : PSpec := mkP plE (fun _ => True) fun _ => .bool true
theorem cpc_dec (c : Ca) : decC caE [.agg [.int .i64 c.emp, .int .i64 c.arm, .sl 2 (c.st.map Se.row), .int .i64 c.farm, .int .i64 c.low, .int .i64 c.high]] = c := caE_dec c
noncomputable abbrev E5 : Env := { P := Try.prog, fn := tbl [(19, .pure fcS), (9, .pure worksS), (20, .pure cpcS), (11, .pure glS), (21, .pure SitS), (22, .pure SitS), (13, .pure sameS), (23, .pure BalS)], own := [500057], key := 500, nt := 113, frz := [(8, [7, 50007, 5, 50005])] }
theorem b5 : PureBody E5 [(8, ([0, 8], [[0, 1, 2, 3, 4, 5, 6, 7, 8, 9, 10, 11, 12, 13, 14]]))] Try.f5 trueSitS := by
  refine pb ?_
  rintro ⟨c, l, p⟩ _
  by_cases hfar : (12 < c.st.length ∨ 12 < l.length) ∨ 12 < p.s.length
  · have hz : (decide (12 < c.st.length) || decide (12 < l.length)) = true ∨ (decide (12 < c.st.length) || decide (12 < l.length)) = false ∧ 12 < p.s.length := by
      by_cases h1 : 12 < c.st.length
      · left; simp [h1]
      · by_cases h2 : 12 < l.length
        · left; simp [h2]
        · right; exact ⟨by simp [h1, h2], by omega⟩
    rcases hz with h | ⟨h, h'⟩
    · simp -dsimp [Try.f5, E5, Ca.row, Pl.row]
      repeat' (first | omega | (simp -dsimp [E5, ri, cellp, ints, Ca.row, Pl.row, fcE_dec, h]) | (refine Also.intro ?_ fun _ => ?_) | (refine Hold.intro fun _ => ?_) | (refine And.intro ?_ ?_))
    · have h2 : ((12 : Int) < p.s.length) = True := eq_true (by omega)
      simp -dsimp [Try.f5, E5, Ca.row, Pl.row]
      repeat' (first | omega | (simp -dsimp [E5, ri, cellp, ints, Ca.row, Pl.row, fcE_dec, h, h2]) | (refine Also.intro ?_ fun _ => ?_) | (refine Hold.intro fun _ => ?_) | (refine And.intro ?_ ?_))
  have h1 : (decide (12 < c.st.length) || decide (12 < l.length)) = false := by
    rw [decide_eq_false (by omega), decide_eq_false (by omega)]; rfl
  have h2 : ((12 : Int) < p.s.length) = False := eq_false (by omega)
  have hP : LoP (c, l, p.f) := ⟨by simp only; omega, by simp only; omega⟩
  have hQ : PcP (c, l, p.s, p.f) := ⟨by simp only; omega, by simp only; omega, by simp only; omega⟩
  have hc6 : c.st.length ≤ 1000000 := by omega
  have hl6 : l.length ≤ 1000000 := by omega
  have hs6 : p.s.length ≤ 12 := by omega
  obtain ⟨f, s⟩ := p
  simp only at *
  have hal : (sitE c l f).1.length ≤ 9223372036854775807 := by have := sitE_len c l f; omega
  have hB : blV c l s f = .tup [.bool (decide (seaE c l s f = 0) && balB c l f s), .int .i64 (seaE c l s f)] := rfl
  have hfst := @sit_first c l f s
  clear hfar
  generalize hse : seaE c l s f = se at *
  generalize hba : balB c l f s = ba at *
  rcases hE : sitE c l f with ⟨a, e⟩
  rw [hE] at hal hfst
  simp only at hal hfst
  have hdec := pcE_dec c l s f
  have htk : List.take s.length (s.map ri) = s.map ri := List.take_of_length_le (by simp)
  by_cases hs0 : s = []
  · subst hs0
    simp only [List.map_nil] at hdec
    by_cases hse0 : se = 0
    case neg =>
      rw [decide_eq_false hse0] at hB
      replace hse0 : (se = 0) = False := eq_false hse0
      simp -dsimp [Try.f5, E5, FreeAt, Ca.row, Pl.row]
      repeat' (first | omega | (simp -dsimp [E5, ri, cellp, ints, FreeAt, Ca.row, Pl.row, fcE_dec, h1, h2, hP, hQ, hc6, hl6, hs6, cpc_dec, glE_dec, lodE3_dec, nf2_emp, nf2_sl, hdec, htk, hal, hE, hB, hse0, V.toInts, V.rows, rowInt, V.toInt]) | (refine Also.intro ?_ fun _ => ?_) | (refine Hold.intro fun _ => ?_) | (refine And.intro ?_ ?_))
    subst hse0
    have hse0 : True := trivial
    cases ba
    · simp -dsimp [Try.f5, E5, FreeAt, Ca.row, Pl.row]
      repeat' (first | omega | (simp -dsimp [E5, ri, cellp, ints, FreeAt, Ca.row, Pl.row, fcE_dec, h1, h2, hP, hQ, hc6, hl6, hs6, cpc_dec, glE_dec, lodE3_dec, nf2_emp, nf2_sl, hdec, htk, hal, hE, hB, hse0, V.toInts, V.rows, rowInt, V.toInt]) | (refine Also.intro ?_ fun _ => ?_) | (refine Hold.intro fun _ => ?_) | (refine And.intro ?_ ?_))
    obtain ⟨he, hF⟩ := hfst rfl rfl
    subst he
    have ha : a = [] := List.eq_nil_of_length_eq_zero hF.len
    subst ha
    simp -dsimp [Try.f5, E5, FreeAt, Ca.row, Pl.row]
    repeat' (first | omega | (simp -dsimp [E5, ri, cellp, ints, FreeAt, Ca.row, Pl.row, fcE_dec, h1, h2, hP, hQ, hc6, hl6, hs6, cpc_dec, glE_dec, lodE3_dec, nf2_emp, nf2_sl, hdec, htk, hal, hE, hB, V.toInts, V.rows, rowInt, V.toInt]) | (refine Also.intro ?_ fun _ => ?_) | (refine Hold.intro fun _ => ?_) | (refine And.intro ?_ ?_))
    refine awp_loop [83, 84, 85, 86, 89, 90, 91, 92, 93, 94, 95, 96, 97, 98, 99, 100, 101, 102, 103, 104, 105, 106, 107, 108, 109, 110, 111, 6, 87, 88, 14] (fun _ : Unit => [(14, (true, .int .i64 0))]) (fun _ => _) (fun _ => 0) () ?_ (HLe.refl _) ?_
    · simp [okAll, okv]
    rintro ⟨⟩
    simp -dsimp []
    repeat' (first | omega | (simp -dsimp [E5, ri, cellp, ints, *]) | (refine Also.intro ?_ fun _ => ?_) | (refine Hold.intro fun _ => ?_) | (refine And.intro ?_ ?_))
  · replace hs0 : (s = []) = False := eq_false hs0
    by_cases hse0 : se = 0
    case neg =>
      rw [decide_eq_false hse0] at hB
      replace hse0 : (se = 0) = False := eq_false hse0
      simp -dsimp [Try.f5, E5, FreeAt, Ca.row, Pl.row]
      repeat' (first | omega | (simp -dsimp [E5, ri, cellp, ints, FreeAt, Ca.row, Pl.row, fcE_dec, h1, h2, hP, hQ, hc6, hl6, hs6, cpc_dec, glE_dec, lodE3_dec, nf2_emp, nf2_sl, hdec, htk, hal, hE, hB, hse0, V.toInts, V.rows, rowInt, V.toInt, hs0]) | (refine Also.intro ?_ fun _ => ?_) | (refine Hold.intro fun _ => ?_) | (refine And.intro ?_ ?_))
    subst hse0
    have hse0 : True := trivial
    cases ba
    · simp -dsimp [Try.f5, E5, FreeAt, Ca.row, Pl.row]
      repeat' (first | omega | (simp -dsimp [E5, ri, cellp, ints, FreeAt, Ca.row, Pl.row, fcE_dec, h1, h2, hP, hQ, hc6, hl6, hs6, cpc_dec, glE_dec, lodE3_dec, nf2_emp, nf2_sl, hdec, htk, hal, hE, hB, hse0, V.toInts, V.rows, rowInt, V.toInt, hs0]) | (refine Also.intro ?_ fun _ => ?_) | (refine Hold.intro fun _ => ?_) | (refine And.intro ?_ ?_))
    obtain ⟨he, hF⟩ := hfst rfl rfl
    subst he
    have hlen := hF.len
    have hleni : ((a.length : Int) = s.length) = True := eq_true (by omega)
    have hleni2 : ((s.length : Int) = a.length) = True := eq_true (by omega)
    simp -dsimp [Try.f5, E5, FreeAt, Ca.row, Pl.row]
    repeat' (first | omega | (simp -dsimp [E5, ri, cellp, ints, FreeAt, Ca.row, Pl.row, fcE_dec, h1, h2, hP, hQ, hc6, hl6, hs6, cpc_dec, glE_dec, lodE3_dec, nf2_emp, nf2_sl, hdec, htk, hal, hE, hB, hse0, V.toInts, V.rows, rowInt, V.toInt, hs0, hleni, hleni2]) | (refine Also.intro ?_ fun _ => ?_) | (refine Hold.intro fun _ => ?_) | (refine And.intro ?_ ?_))
    refine awp_loop [83, 84, 85, 86, 89, 90, 91, 92, 93, 94, 95, 96, 97, 98, 99, 100, 101, 102, 103, 104, 105, 106, 107, 108, 109, 110, 111, 6, 87, 88, 14] (fun k : { k : Nat // k ≤ a.length ∧ ∀ j, j < k → a.getD j 0 = s.getD j 0 } => [(14, (true, .int .i64 k.1))]) (fun _ => _) (fun k => a.length - k.1) ⟨0, by omega, fun _ h => by omega⟩ ?_ (HLe.refl _) ?_
    · simp [okAll, okv]
    rintro ⟨k, hk, heq⟩
    dsimp only
    by_cases hk1 : k < a.length
    · have hki : (k : Int) < a.length := by omega
      have hks : k < s.length := by omega
      have hksi : (k : Int) < s.length := by omega
      have wk : IntKind.wrap .i64 ((k : Int) + 1) = (k + 1 : Nat) := wrap_id (by omega) (by omega)
      obtain ⟨x, hx⟩ : ∃ x, a[k]? = some x := ⟨_, List.getElem?_eq_getElem hk1⟩
      have hx' : a[k] = x := (List.getElem?_eq_some_iff.1 hx).2
      obtain ⟨y, hy⟩ : ∃ y, s[k]? = some y := ⟨_, List.getElem?_eq_getElem hks⟩
      have hy' : s[k] = y := (List.getElem?_eq_some_iff.1 hy).2
      have hxd : a.getD k 0 = x := by simp [List.getD, hx]
      have hyd : s.getD k 0 = y := by simp [List.getD, hy]
      have hlt := hF.lt k hk1 heq
      rw [hxd, hyd] at hlt
      by_cases hxy : x = y
      · have heq2 : ∀ j, j < k + 1 → a.getD j 0 = s.getD j 0 := fun j hj => by
          by_cases hjk : j = k
          · subst hjk; rw [hxd, hyd, hxy]
          · exact heq j (by omega)
        subst hxy
        simp -dsimp [hki]
        repeat' (first | omega | (simp -dsimp [E5, ri, cellp, ints, Pl.row, hki, hk1, hks, hksi, hx, hx', hy, hy', wk]) | (refine Also.intro ?_ fun _ => ?_) | (refine Hold.intro fun _ => ?_) | (refine And.intro ?_ ?_))
        refine ⟨k + 1, tle_chain rfl ?_, HLe.refl _, ⟨by omega, by simpa using heq2⟩, by omega⟩
        simp [okAll, okv]
      · have hxy2 := hlt hxy
        have hxy' : (x = y) = False := eq_false hxy
        simp -dsimp [hki]
        repeat' (first | omega | (simp -dsimp [E5, ri, cellp, ints, Pl.row, hki, hk1, hks, hksi, hx, hx', hy, hy', hxy', hxy2]) | (refine Also.intro ?_ fun _ => ?_) | (refine Hold.intro fun _ => ?_) | (refine And.intro ?_ ?_))
    · have hkn : ¬ (k : Int) < a.length := by omega
      simp -dsimp [hkn]
      repeat' (first | omega | (simp -dsimp [E5, ri, cellp, ints, hkn]) | (refine Also.intro ?_ fun _ => ?_) | (refine Hold.intro fun _ => ?_) | (refine And.intro ?_ ?_))
theorem ok5 : FnOK Try.prog 5 (.pure trueSitS) := pure_fn (E := E5) rfl (.cons ok19 (.cons ok9 (.cons ok20 (.cons ok11 (.cons ok21 (.cons ok22 (.cons ok13 (.cons ok23 .nil)))))))) (ok := [(8, ([0, 8], [[0, 1, 2, 3, 4, 5, 6, 7, 8, 9, 10, 11, 12, 13, 14]]))]) (fn := Try.f5) (by kernel_rfl) (by kernel_rfl) (by kernel_rfl) (by kernel_rfl) rfl (fun _ _ => by simp) b5
end Go.Sx
end
