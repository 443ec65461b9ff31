/- Stores into owned blocks, and appends to them. No conditions. -/
import Derived.Test.YtomgmojjdgiieaaGreatP02
set_option linter.unusedSimpArgs false
set_option linter.unusedVariables false
set_option linter.unusedSectionVars false
namespace Go.Sx
open Go.RowKit
variable [Gls]
omit [Gls] in
theorem splice_get (row cs : List V) (j k : Nat) (hj : j + cs.length ≤ row.length) :
    (splice row j cs)[k]? = if k < j then row[k]? else if k < j + cs.length then cs[k - j]? else row[k]? := by
  unfold splice
  rw [List.append_assoc, List.getElem?_append, List.length_take]
  have hm : min j row.length = j := by omega
  rw [hm]
  by_cases h1 : k < j
  · simp only [h1, if_true]; rw [List.getElem?_take]; simp [h1]
  · simp only [h1, if_false]
    rw [List.getElem?_append]
    by_cases h2 : k < j + cs.length
    · have : k - j < cs.length := by omega
      simp [h2, this]
    · have : ¬ k - j < cs.length := by omega
      simp only [h2, this, if_false]
      rw [List.getElem?_drop]
      congr 1; omega
omit [Gls] in
theorem splice_length (row cs : List V) (j : Nat) (hj : j + cs.length ≤ row.length) : (splice row j cs).length = row.length := by
  simp [splice]; omega
omit [Gls] in
theorem flat_lt {e e' z j j' m : Nat} (hne : e' ≠ e) (hj : j + m ≤ z) (hj' : j' < z) : e' * z + j' < e * z + j ∨ e * z + j + m ≤ e' * z + j' := by
  rcases Nat.lt_or_gt_of_ne hne with h | h
  · left
    have : (e' + 1) * z ≤ e * z := Nat.mul_le_mul_right z h
    rw [Nat.add_mul] at this; omega
  · right
    have : (e + 1) * z ≤ e' * z := Nat.mul_le_mul_right z h
    rw [Nat.add_mul] at this; omega
omit [Gls] in
theorem seg_get (l vs : List Value) (o k : Nat) (ho : o + vs.length ≤ l.length) :
    (l.take o ++ vs ++ l.drop (o + vs.length))[k]? = if k < o then l[k]? else if k < o + vs.length then vs[k - o]? else l[k]? := by
  rw [List.append_assoc, List.getElem?_append, List.length_take]
  have hm : min o l.length = o := by omega
  rw [hm]
  by_cases h1 : k < o
  · simp only [h1, if_true]; rw [List.getElem?_take]; simp [h1]
  · simp only [h1, if_false]
    rw [List.getElem?_append]
    by_cases h2 : k < o + vs.length
    · have : k - o < vs.length := by omega
      simp [h2, this]
    · have : ¬ k - o < vs.length := by omega
      simp only [h2, this, if_false]
      rw [List.getElem?_drop]
      congr 1; omega
section
variable {F : Fr} {w : World} {A : Nat → Prop} {X : Refs} {h : Hp}
omit [Gls] in
theorem BOK.noMap {s i : Nat} {B : Blk} (hb : BOK F w A X s i B) (hr : (X.D s i).real) {es : Array MapEntry} {clk : Nat} (hm : w.heap[(X.D s i).b]? = some (Obj.map es clk)) : False := by
  rcases hb.mem with h1 | ⟨arr, cap, h1, _⟩
  · exact hr h1.1
  · rw [h1] at hm; cases hm
theorem Inv.turn (hI : Inv F w A X h) {s i : Nat} {B B' : Blk} (hB : hget h s i = some B) {w' : World} (hsz : w'.heap.size = w.heap.size) (hos : w'.os = w.os) (htp : w'.tape = w.tape) (hout : w'.output = w.output)
    (hfz : B.fz = false) (hreal : (X.D s i).real)
    (hoth : ∀ b, b ≠ (X.D s i).b → w'.heap[b]? = w.heap[b]?)
    (hok : Later w A w' A → BOK F w' A X s i B') : Later w A w' A ∧ Inv F w' A X (hset h s i B') := by
  have hb := hI.blk s i B hB
  have hown : A (X.D s i).b ∧ (F.M (X.D s i).b ∨ F.w0.heap.size ≤ (X.D s i).b) := by
    rcases hb.mem with hm | ⟨arr, cap, _, _, _, _, _, _, _, h8⟩
    · exact absurd hm.1 hreal
    · exact h8 hfz
  have hL : Later w A w' A := ⟨by omega, fun b hlt hA => ⟨hoth b (fun e => hA (e ▸ hown.1)), hA⟩⟩
  refine ⟨hL, { gl := hI.gl.mono hL, abd := ?_, aold := hI.aold, akeep := hI.akeep, os := hos.trans hI.os, tape := htp.trans hI.tape, output := hout.trans hI.output, size := by have := hI.size; omega, same := ?_, xle := hI.xle, nb := fun s' => by rw [hnext_set]; exact hI.nb s', mi := hI.mi.step (mps_set h s i · B') rfl rfl (fun b es clk hm => by rw [hoth b (fun e => hb.noMap hreal (e ▸ hm))]; exact hm) (fun _ _ _ _ hA => hA), blk := ?_, inj := ?_ }⟩
  · intro b hA; have := hI.abd b hA; omega
  · intro b hlt hM
    rw [hoth b (fun e => ?_)]
    · exact hI.same b hlt hM
    · rcases hown.2 with h1 | h1
      · exact hM (e ▸ h1)
      · omega
  · intro s' i' B1 hB1
    by_cases hsi : s' = s ∧ i' = i
    · obtain ⟨rfl, rfl⟩ := hsi
      rw [hget_set_same hB] at hB1
      obtain rfl := Option.some.inj hB1
      exact hok hL
    · rw [hget_set_other h B' hsi (hget_base hB)] at hB1
      have ho := hI.blk s' i' B1 hB1
      refine { hN := ho.hN, hz := ho.hz, hlen := ho.hlen, rows := ho.rows, mem := ?_ }
      rcases ho.mem with hm | ⟨arr, cap, h1, h2, h3, h4, h5, h6, h7, h8⟩
      · exact .inl hm
      · refine .inr ⟨arr, cap, ?_, h2, h3, h4, h5, ?_, h7, h8⟩
        · rw [hoth _ (fun e => hsi ?_)]
          · exact h1
          · exact hI.inj s' i' B1 s i B hB1 hB (by unfold Hd.real; rw [h2]; simp) hreal e
        · intro e j row c he hj
          obtain ⟨u, g1, g2, g3, g4⟩ := h6 e j row c he hj
          exact ⟨u, g1, g2, g3.mono hL (Xle.refl X), fun hcl => (g4 hcl).mono hL⟩
  · intro s1 i1 B1 s2 i2 B2 hb1 hb2 hr1 hr2 heq
    have key : ∀ s' i' B1, hget (hset h s i B') s' i' = some B1 → ∃ B2, hget h s' i' = some B2 := by
      intro s' i' B1 hB1
      by_cases hsi : s' = s ∧ i' = i
      · obtain ⟨rfl, rfl⟩ := hsi; exact ⟨B, hB⟩
      · rw [hget_set_other h B' hsi (hget_base hB)] at hB1; exact ⟨_, hB1⟩
    obtain ⟨C1, hC1⟩ := key _ _ _ hb1
    obtain ⟨C2, hC2⟩ := key _ _ _ hb2
    exact hI.inj s1 i1 C1 s2 i2 C2 hC1 hC2 hr1 hr2 heq
omit [Gls] in
theorem BOK.real {s i : Nat} {B : Blk} (hb : BOK F w A X s i B) (hne : B.els ≠ []) : (X.D s i).real := by
  rcases hb.mem with hm | ⟨arr, cap, _, h2, _⟩
  · exact absurd hm.2 hne
  · unfold Hd.real; rw [h2]; simp
theorem Inv.store (P : Program) (hI : Inv F w A X h) {s i e j : Nat} {B : Blk} (hB : hget h s i = some B) (hfz : B.fz = false) (he : e < B.els.length) {cs : List V} {us : Array Value} (hj : j + cs.length ≤ B.z)
    (hcs : CellsOK w A X cs us) :
    ∃ w', (storeCells ⟨(X.D s i).b, (X.D s i).o + e * B.z + j, none⟩ us.toList).run P w = .ok () w' ∧ Later w A w' A ∧
      Inv F w' A X (hset h s i { B with els := B.els.set e (splice (B.els.getD e []) j cs), cl := B.cl && cs.all V.refFree }) := by
  have hb := hI.blk s i B hB
  have hne : B.els ≠ [] := fun hh => by rw [hh] at he; simp at he
  have hreal := hb.real hne
  rcases hb.mem with hm | ⟨arr, cap, h1, h2, h3, h4, h5, h6, h7, h8⟩
  · exact absurd hm.2 hne
  have hrow : B.els.getD e [] = B.els[e] := by simp [List.getD, List.getElem?_eq_getElem he]
  have hrl : (B.els[e]).length = B.z := hb.rows _ (List.getElem_mem he)
  have hel : (e + 1) * B.z ≤ cap * B.z := Nat.mul_le_mul_right _ (by omega)
  have hfit : (X.D s i).o + e * B.z + j + cs.length ≤ arr.size := by rw [Nat.add_mul] at hel; omega
  have husl : us.toList.length = cs.length := by simpa using hcs.1
  have hrun := run_storeCells_at P (X.D s i).b ((X.D s i).o + e * B.z + j) B.ty us.toList 0 arr w h1 (by rw [husl]; simpa using hfit) (by
    intro v hv
    obtain ⟨k, hk⟩ := List.mem_iff_getElem?.1 hv
    have hk' : us[k]? = some v := by simpa using hk
    have hlt : k < cs.length := by have := (Array.getElem?_eq_some_iff.1 hk').1; rw [hcs.1] at this; exact this
    obtain ⟨u, g1, g2, _⟩ := hcs.2 k cs[k] (List.getElem?_eq_getElem hlt)
    rw [hk'] at g1; cases g1; exact g2)
  simp only [Nat.add_zero] at hrun
  refine ⟨_, hrun, hI.turn hB (by simp [World.setRow]) rfl rfl rfl hfz hreal (fun b hbne => setRow_other w _ b _ hbne) ?_⟩
  intro hL
  have hal : (X.D s i).o + e * B.z + j + us.toList.length ≤ arr.toList.length := by rw [husl]; simpa using hfit
  refine { hN := hb.hN, hz := hb.hz, hlen := by rw [hb.hlen]; simp, rows := ?_, mem := .inr ⟨_, cap, setRow_heap w _ arr _ B.ty _ h1, by simpa using h2, by simpa using h3, h4, ?_, ?_, h7, h8⟩ }
  · intro row hr
    rcases List.mem_or_eq_of_mem_set hr with hr | rfl
    · exact hb.rows row hr
    · rw [splice_length, hrow, hrl]; rw [hrow, hrl]; exact hj
  · simp only [List.size_toArray, List.length_append, List.length_take, List.length_drop, Array.length_toList]
    simp at hal; omega
  · intro e' j' row c he' hj'
    simp only at he'
    by_cases hee : e' = e
    · subst hee
      rw [List.getElem?_set_self he] at he'
      obtain rfl := Option.some.inj he'
      rw [hrow, splice_get _ _ _ _ (by rw [hrl]; exact hj)] at hj'
      have hlen' : j' < B.z ∨ B.z ≤ j' := by omega
      simp only [List.getElem?_toArray]
      rw [seg_get _ _ _ _ hal]
      by_cases c1 : j' < j
      · rw [if_pos c1] at hj'
        obtain ⟨u, g1, g2, g3, g4⟩ := h6 e' j' B.els[e'] c (List.getElem?_eq_getElem he) hj'
        refine ⟨u, ?_, g2, g3.mono hL (Xle.refl X), fun hcl => (g4 (by simp at hcl; exact hcl.1)).mono hL⟩
        rw [if_pos (by omega)]; simpa using g1
      · rw [if_neg c1] at hj'
        by_cases c2 : j' < j + cs.length
        · rw [if_pos c2] at hj'
          obtain ⟨u, g1, g2, g3⟩ := hcs.2 (j' - j) c hj'
          refine ⟨u, ?_, g2, g3.mono hL (Xle.refl X), fun hcl => ?_⟩
          · rw [if_neg (by omega), if_pos (by omega)]
            rw [show (X.D s i).o + e' * B.z + j' - ((X.D s i).o + e' * B.z + j) = j' - j by omega]; simpa using g1
          · simp only [Bool.and_eq_true, List.all_eq_true] at hcl
            exact PV.mono hL (PV.of_refFree g3 (hcl.2 c (List.mem_of_getElem? hj')))
        · rw [if_neg c2] at hj'
          obtain ⟨u, g1, g2, g3, g4⟩ := h6 e' j' B.els[e'] c (List.getElem?_eq_getElem he) hj'
          refine ⟨u, ?_, g2, g3.mono hL (Xle.refl X), fun hcl => (g4 (by simp at hcl; exact hcl.1)).mono hL⟩
          rw [if_neg (by omega), if_neg (by omega)]; simpa using g1
    · rw [List.getElem?_set_ne (fun hh => hee hh.symm)] at he'
      obtain ⟨u, g1, g2, g3, g4⟩ := h6 e' j' row c he' hj'
      have hj2 : j' < B.z := by rw [← hb.rows row (List.mem_of_getElem? he')]; exact (List.getElem?_eq_some_iff.1 hj').1
      refine ⟨u, ?_, g2, g3.mono hL (Xle.refl X), fun hcl => (g4 (by simp at hcl; exact hcl.1)).mono hL⟩
      simp only [List.getElem?_toArray]
      rw [seg_get _ _ _ _ hal]
      rcases flat_lt hee hj hj2 with hc | hc
      · rw [if_pos (by omega)]; simpa using g1
      · rw [if_neg (by omega), if_neg (by omega)]; simpa using g1
def Refs.put (X : Refs) (s i : Nat) (d : Hd) : Refs := { X with D := fun s' i' => if s' = s ∧ i' = i then d else X.D s' i' }
omit [Gls] in
theorem Refs.put_same (X : Refs) (s i : Nat) (d : Hd) : (X.put s i d).D s i = d := by simp [Refs.put]
omit [Gls] in
theorem Refs.put_other (X : Refs) {s i s' i' : Nat} (d : Hd) (hne : ¬ (s' = s ∧ i' = i)) : (X.put s i d).D s' i' = X.D s' i' := by simp only [Refs.put]; rw [if_neg hne]
theorem Inv.turn2 (hI : Inv F w A X h) {s i : Nat} {B B' : Blk} (hB : hget h s i = some B) {w' : World} {A' : Nat → Prop} {d' : Hd} (hsz : w.heap.size ≤ w'.heap.size) (hos : w'.os = w.os) (htp : w'.tape = w.tape) (hout : w'.output = w.output)
    (hfz : B.fz = false)
    (hoth : ∀ b, b < w.heap.size → ((X.D s i).real → b ≠ (X.D s i).b) → w'.heap[b]? = w.heap[b]?)
    (hA1 : ∀ b, A b → A' b) (hA2 : ∀ b, A' b → A b ∨ (w.heap.size ≤ b ∧ b < w'.heap.size))
    (hlen : d' = X.D s i ∨ (X.D s i).len < d'.len)
    (hb' : d'.real → ((X.D s i).real ∧ d'.b = (X.D s i).b) ∨ w.heap.size ≤ d'.b)
    (hok : Later w A w' A' → Xle X (X.put s i d') → BOK F w' A' (X.put s i d') s i B') :
    Later w A w' A' ∧ Xle X (X.put s i d') ∧ Inv F w' A' (X.put s i d') (hset h s i B') := by
  have hb := hI.blk s i B hB
  have hown : (X.D s i).real → A (X.D s i).b ∧ (F.M (X.D s i).b ∨ F.w0.heap.size ≤ (X.D s i).b) := by
    intro hreal
    rcases hb.mem with hm | ⟨arr, cap, _, _, _, _, _, _, _, h8⟩
    · exact absurd hm.1 hreal
    · exact h8 hfz
  have hL : Later w A w' A' := ⟨hsz, fun b hlt hA => ⟨hoth b hlt (fun hr e => hA (e ▸ (hown hr).1)), fun hh => by rcases hA2 b hh with h1 | h1; exact hA h1; omega⟩⟩
  have hX : Xle X (X.put s i d') := by
    refine ⟨?_, .same rfl rfl⟩
    intro s' i' hi
    refine ⟨hi, ?_⟩
    by_cases hsi : s' = s ∧ i' = i
    · obtain ⟨rfl, rfl⟩ := hsi; rw [Refs.put_same]; exact hlen
    · rw [Refs.put_other X d' hsi]; exact .inl rfl
  refine ⟨hL, hX, { gl := hI.gl.mono hL, abd := ?_, aold := ?_, akeep := fun b h1 h2 h3 => hA1 b (hI.akeep b h1 h2 h3), os := hos.trans hI.os, tape := htp.trans hI.tape, output := hout.trans hI.output, size := by have := hI.size; omega, same := ?_, xle := hI.xle.trans hX, nb := fun s' => by rw [hnext_set]; exact hI.nb s', mi := hI.mi.step (mps_set h s i · B') rfl rfl (fun b es clk hm => by rw [hoth b (Array.getElem?_eq_some_iff.1 hm).1 (fun hr e => hb.noMap hr (e ▸ hm))]; exact hm) (fun b _ _ _ hA => hA1 b hA), blk := ?_, inj := ?_ }⟩
  · intro b hA
    rcases hA2 b hA with h1 | h1
    · have := hI.abd b h1; omega
    · exact h1.2
  · intro b hlt hA
    rcases hA2 b hA with h1 | h1
    · exact hI.aold b hlt h1
    · have := hI.size; omega
  · intro b hlt hM
    have := hI.size
    rw [hoth b (by omega) (fun hr e => ?_)]
    · exact hI.same b hlt hM
    · rcases (hown hr).2 with h1 | h1
      · exact hM (e ▸ h1)
      · omega
  · intro s' i' B1 hB1
    by_cases hsi : s' = s ∧ i' = i
    · obtain ⟨rfl, rfl⟩ := hsi
      rw [hget_set_same hB] at hB1
      obtain rfl := Option.some.inj hB1
      exact hok hL hX
    · rw [hget_set_other h B' hsi (hget_base hB)] at hB1
      have ho := hI.blk s' i' B1 hB1
      have hD := Refs.put_other X d' hsi
      refine { hN := ho.hN, hz := by rw [hD]; exact ho.hz, hlen := by rw [hD]; exact ho.hlen, rows := ho.rows, mem := ?_ }
      rw [hD]
      rcases ho.mem with hm | ⟨arr, cap, h1, h2, h3, h4, h5, h6, h7, h8⟩
      · exact .inl hm
      · have hlt : (X.D s' i').b < w.heap.size := (Array.getElem?_eq_some_iff.1 h1).1
        refine .inr ⟨arr, cap, ?_, h2, h3, h4, h5, ?_, ?_, ?_⟩
        · rw [hoth _ hlt (fun hr e => hsi ?_)]
          · exact h1
          · exact hI.inj s' i' B1 s i B hB1 hB (by unfold Hd.real; rw [h2]; simp) hr e
        · intro e j row c he hj
          obtain ⟨u, g1, g2, g3, g4⟩ := h6 e j row c he hj
          exact ⟨u, g1, g2, g3.mono hL hX, fun hcl => (g4 hcl).mono hL⟩
        · intro hf hh
          rcases hA2 _ hh with h1' | h1'
          · exact h7 hf h1'
          · omega
        · intro hf; exact ⟨hA1 _ (h8 hf).1, (h8 hf).2⟩
  · intro s1 i1 B1 s2 i2 B2 hb1 hb2 hr1 hr2 heq
    have key : ∀ s' i' B1, hget (hset h s i B') s' i' = some B1 → ((X.put s i d').D s' i').real → (s' = s ∧ i' = i ∧ (((X.D s i).real ∧ d'.b = (X.D s i).b) ∨ w.heap.size ≤ d'.b)) ∨ (¬ (s' = s ∧ i' = i) ∧ hget h s' i' = some B1 ∧ (X.D s' i').real ∧ (X.D s' i').b < w.heap.size) := by
      intro s' i' B1 hB1 hr
      by_cases hsi : s' = s ∧ i' = i
      · obtain ⟨rfl, rfl⟩ := hsi
        rw [Refs.put_same] at hr
        exact .inl ⟨rfl, rfl, hb' hr⟩
      · rw [hget_set_other h B' hsi (hget_base hB)] at hB1
        rw [Refs.put_other X d' hsi] at hr
        refine .inr ⟨hsi, hB1, hr, ?_⟩
        rcases (hI.blk s' i' B1 hB1).mem with hm | ⟨arr, cap, h1, _⟩
        · exact absurd hm.1 hr
        · exact (Array.getElem?_eq_some_iff.1 h1).1
    rcases key _ _ _ hb1 hr1 with ⟨e1, e1', c1⟩ | ⟨n1, g1, r1, l1⟩ <;> rcases key _ _ _ hb2 hr2 with ⟨e2, e2', c2⟩ | ⟨n2, g2, r2, l2⟩
    · exact ⟨e1.trans e2.symm, e1'.trans e2'.symm⟩
    · rw [e1, e1', Refs.put_same, Refs.put_other X d' n2] at heq
      rcases c1 with ⟨r, c1⟩ | c1
      · have := hI.inj s i B s2 i2 B2 hB g2 r r2 (c1.symm.trans heq)
        exact absurd ⟨this.1.symm, this.2.symm⟩ n2
      · omega
    · rw [e2, e2', Refs.put_same, Refs.put_other X d' n1] at heq
      rcases c2 with ⟨r, c2⟩ | c2
      · have := hI.inj s1 i1 B1 s i B g1 hB r1 r (heq.trans c2)
        exact absurd this n1
      · omega
    · rw [Refs.put_other X d' n1, Refs.put_other X d' n2] at heq
      exact hI.inj s1 i1 B1 s2 i2 B2 g1 g2 r1 r2 heq
structure Src (P : Program) (w : World) (A : Nat → Prop) (X : Refs) (size : Nat) (x : Value) (els : List (List V)) (cl : Bool) (news : List Value) : Prop where
  shape : ∃ a c, x = .slice a els.length c
  run : (Builtin.firstCells size els.length x).run P w = .ok news.toArray w
  run' : (Builtin.firstCells size els.length x).run P w.drew = .ok news.toArray w.drew
  rows : ∀ row ∈ els, row.length = size
  len : news.length = els.length * size
  cells : ∀ e j row c, els[e]? = some row → row[j]? = some c → ∃ u, news[e * size + j]? = some u ∧ RV w A X c u ∧ (cl = true → PV w A c u)
  one : ∀ u ∈ news, u.oneCell' = true
omit [Gls] in
theorem rows_get {els : List (List V)} {e : Nat} {row : List V} (els2 : List (List V)) (he : (els ++ els2)[e]? = some row) : (e < els.length ∧ els[e]? = some row) ∨ (els.length ≤ e ∧ els2[e - els.length]? = some row) := by
  rw [List.getElem?_append] at he
  split at he
  · rename_i hlt; exact .inl ⟨hlt, he⟩
  · rename_i hlt; exact .inr ⟨by omega, he⟩
end
end Go.Sx
