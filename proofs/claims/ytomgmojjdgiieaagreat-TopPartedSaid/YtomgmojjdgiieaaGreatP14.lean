/- What a loop over a function turns in the world: its record, and nothing that a value refers to. No conditions. -/
import Derived.Test.YtomgmojjdgiieaaGreatP13
set_option linter.unusedSimpArgs false
set_option linter.unusedVariables false
set_option linter.unusedSectionVars false
namespace Go.Sx
open Go.RowKit
variable [Gls]
def Obj.cellsB : Obj → Bool
  | .cells .. | .map .. => true
  | _ => false
structure Calm (w w' : World) : Prop where
  size : w.heap.size ≤ w'.heap.size
  cells : ∀ (b : Nat) (arr : Array Value) (ty : TypeId) (fr : Nat × Nat), w.heap[b]? = some (.cells arr ty fr) → w'.heap[b]? = some (.cells arr ty fr)
  maps : ∀ (b : Nat) (es : Array MapEntry) (clk : Nat), w.heap[b]? = some (Obj.map es clk) → w'.heap[b]? = some (Obj.map es clk)
  os : w'.os = w.os
  tape : w'.tape = w.tape
  output : w'.output = w.output
omit [Gls] in
theorem Calm.refl (w : World) : Calm w w := ⟨Nat.le_refl _, fun _ _ _ _ h => h, fun _ _ _ h => h, rfl, rfl, rfl⟩
omit [Gls] in
theorem Calm.put {w : World} {l : Nat} {o : Obj} (o' : Obj) (h : w.heap[l]? = some o) (hc : Obj.cellsB o = false) : Calm w (w.putObj l o') :=
  ⟨by simp, fun b arr ty fr hb => by
    have hne : b ≠ l := by rintro rfl; rw [h] at hb; cases hb; simp [Obj.cellsB] at hc
    rw [World.putObj_heap_other hne]; exact hb, fun b es clk hb => by
    have hne : b ≠ l := by rintro rfl; rw [h] at hb; cases hb; simp [Obj.cellsB] at hc
    rw [World.putObj_heap_other hne]; exact hb, rfl, rfl, rfl⟩
section
variable {F : Fr} {w w' : World} {A : Nat → Prop} {X : Refs} {h : Hp}
omit [Gls] in
theorem cell_cells {w : World} {a : Addr} {v : Value} (h : w.cell? a = some v) : ∃ arr ty fr, w.heap[a.block]? = some (.cells arr ty fr) := by
  unfold World.cell? at h
  cases ho : w.heap[a.block]? with
  | none => simp [ho] at h
  | some o => cases o <;> simp_all
omit [Gls] in
theorem Calm.cell (hc : Calm w w') {a : Addr} {v : Value} (h : w.cell? a = some v) : w'.cell? a = some v := by
  obtain ⟨arr, ty, fr, hb⟩ := cell_cells h
  rw [World.cell?_of_block (w := w) (by rw [hb]; exact hc.cells _ _ _ _ hb)]; exact h
omit [Gls] in
theorem PV.calm (hc : Calm w w') {x : V} {v : Value} (h : PV w A x v) : PV w' A x v := by
  induction h with
  | top v => exact .top v
  | int k n => exact .int k n
  | bool b => exact .bool b
  | nil => exact .nil
  | nilp => exact .nilp
  | nilf => exact .nilf
  | nilm => exact .nilm
  | yld l => exact .yld l
  | emp a => exact .emp a
  | anyb b => exact .anyb b
  | agg cs us hl _ ih => exact .agg cs us hl ih
  | tup cs us hl _ ih => exact .tup cs us hl ih
  | fn f cs us hl _ ih => exact .fn f cs us hl ih
  | sl0 z a cap => exact .sl0 z a cap
  | sl z els b off cap u hcap hb hA hz hcc _ ih => exact .sl z els b off cap u hcap (Nat.lt_of_lt_of_le hb hc.size) hA hz (fun e j row c he hj => ⟨hc.cell (hcc e j row c he hj).1, (hcc e j row c he hj).2⟩) ih
  | ip z els e0 j0 b off u hb hA hz hcc _ ih => exact .ip z els e0 j0 b off u (Nat.lt_of_lt_of_le hb hc.size) hA hz (fun e j row c he hj => ⟨hc.cell (hcc e j row c he hj).1, (hcc e j row c he hj).2⟩) ih
  | mpi m r es clk hr hA hm => exact .mpi m r es clk (hc.maps _ _ _ hr) hA hm
omit [Gls] in
theorem RV.calm (hc : Calm w w') {x : V} {v : Value} (h : RV w A X x v) : RV w' A X x v := by
  induction h with
  | pure h => exact .pure (h.calm hc)
  | agg cs us hl _ ih => exact .agg cs us hl ih
  | tup cs us hl _ ih => exact .tup cs us hl ih
  | fn f cs us hl _ ih => exact .fn f cs us hl ih
  | bsl s i n a c hN hn hv => exact .bsl s i n a c hN hn hv
  | bptr s i n e j a hN hn hv => exact .bptr s i n e j a hN hn hv
  | osl s i n off len cap a c hcc hN hn hv => exact .osl s i n off len cap a c hcc hN hn hv
  | bmp s i hK => exact .bmp s i hK
theorem Inv.calm (hI : Inv F w A X h) (hc : Calm w w') (w0 : World) (hsz : w0.heap.size = F.w0.heap.size) (hos : w0.os = F.w0.os) (htp : w0.tape = F.w0.tape) (hou : w0.output = F.w0.output)
    (hs : ∀ b, b < F.w0.heap.size → ¬ F.M b → w'.heap[b]? = w0.heap[b]?) : Inv { F with w0 := w0 } w' A X h := by
  refine { gl := fun g v hg => (hI.gl g v hg).calm hc, abd := fun b hA => Nat.lt_of_lt_of_le (hI.abd b hA) hc.size, aold := fun b hlt => hI.aold b (by simp only at hlt; omega), akeep := fun b hlt => hI.akeep b (by simp only at hlt; omega), os := (hc.os.trans hI.os).trans hos.symm, tape := (hc.tape.trans hI.tape).trans htp.symm, output := (hc.output.trans hI.output).trans hou.symm, size := by simp only [hsz]; exact Nat.le_trans hI.size hc.size, same := fun b hlt hM => hs b (by simp only at hlt; omega) hM, xle := hI.xle, nb := hI.nb, mi := ⟨hI.mi.mb, fun s i m hg => ?_, hI.mi.inj⟩, inj := hI.inj, blk := ?_ }
  · have k := hI.mi.mp s i m hg
    obtain ⟨es, clk, k1, k2⟩ := k.ob
    exact ⟨k.hK, ⟨es, clk, hc.maps _ _ _ k1, k2⟩, k.own.1, by simp only [hsz]; exact k.own.2⟩
  intro s i B hB
  have ho := hI.blk s i B hB
  refine { hN := ho.hN, hz := ho.hz, hlen := ho.hlen, rows := ho.rows, mem := ?_ }
  rcases ho.mem with hm | ⟨arr, cap, h1, h2, h3, h4, h5, h6, h7, h8⟩
  · exact .inl hm
  · refine .inr ⟨arr, cap, hc.cells _ _ _ _ h1, h2, h3, h4, h5, ?_, h7, ?_⟩
    · intro e j row c he hj
      obtain ⟨u, g1, g2, g3, g4⟩ := h6 e j row c he hj
      exact ⟨u, g1, g2, g3.calm hc, fun hcl => (g4 hcl).calm hc⟩
    · intro hf
      simp only [hsz]
      exact h8 hf
theorem Inv.put_new (hI : Inv F w A X h) {l : Nat} {o : Obj} (o' : Obj) (ho : w.heap[l]? = some o) (hc : Obj.cellsB o = false) (hl : F.w0.heap.size ≤ l) : Inv F (w.putObj l o') A X h :=
  hI.calm (Calm.put o' ho hc) F.w0 rfl rfl rfl rfl fun b hlt hM => by rw [World.putObj_heap_other (by omega)]; exact hI.same b hlt hM
theorem Inv.put_old (hI : Inv F w A X h) {l : Nat} {o : Obj} (r : Loop) (ho : w.heap[l]? = some o) (hc : Obj.cellsB o = false) (hl : l < F.w0.heap.size) : Inv (F.stop l r) (w.putObj l (.loop r)) A X h :=
  hI.calm (Calm.put _ ho hc) (F.w0.putObj l (.loop r)) (by simp) rfl rfl rfl fun b hlt hM => by
    by_cases e : b = l
    · subst e
      rw [World.putObj_heap_same (Array.getElem?_eq_some_iff.1 ho).1, World.putObj_heap_same hl]
    · rw [World.putObj_heap_other e, World.putObj_heap_other e]; exact hI.same b hlt hM
theorem Inv.put_back {l : Nat} {r r' : Loop} (hI : Inv (F.stop l r) w A X h) {o : Obj} (ho : w.heap[l]? = some o) (hc : Obj.cellsB o = false) (hl : F.w0.heap[l]? = some (.loop r')) : Inv F (w.putObj l (.loop r')) A X h :=
  hI.calm (Calm.put _ ho hc) F.w0 (by simp [Fr.stop]) rfl rfl rfl fun b hlt hM => by
    by_cases e : b = l
    · subst e
      rw [World.putObj_heap_same (Array.getElem?_eq_some_iff.1 ho).1, hl]
    · rw [World.putObj_heap_other e]
      have := hI.same b hlt hM
      simp only [Fr.stop] at this
      rw [World.putObj_heap_other e] at this
      exact this
theorem Inv.put_again {l : Nat} {r : Loop} (hI : Inv (F.stop l r) w A X h) (r' : Loop) {o : Obj} (ho : w.heap[l]? = some o) (hc : Obj.cellsB o = false) (hl : l < F.w0.heap.size) : Inv (F.stop l r') (w.putObj l (.loop r')) A X h :=
  hI.calm (Calm.put _ ho hc) (F.w0.putObj l (.loop r')) (by simp [Fr.stop]) rfl rfl rfl fun b hlt hM => by
    simp only [Fr.stop, World.putObj_size] at hlt
    by_cases e : b = l
    · subst e
      rw [World.putObj_heap_same (Array.getElem?_eq_some_iff.1 ho).1, World.putObj_heap_same hl]
    · rw [World.putObj_heap_other e, World.putObj_heap_other e]
      have := hI.same b (by simpa [Fr.stop] using hlt) hM
      simp only [Fr.stop] at this
      rw [World.putObj_heap_other e] at this
      exact this
theorem Inv.hle (hI : Inv F w A X h) {h' : Hp} (hl : HLe h h') : Inv F w A X h' :=
  { gl := hI.gl, abd := hI.abd, aold := hI.aold, akeep := hI.akeep, os := hI.os, tape := hI.tape, output := hI.output, size := hI.size, same := hI.same, xle := hI.xle, nb := fun s => Nat.le_trans (hI.nb s) (hl.1.2 s), mi := hI.mi.step hl.2.2 rfl rfl (fun _ _ _ h => h) (fun _ _ _ _ h => h), blk := fun s i B hg => hI.blk s i B (hl.1.1 s i B hg), inj := fun s i B s' i' B' hg hg' => hI.inj s i B s' i' B' (hl.1.1 s i B hg) (hl.1.1 s' i' B' hg') }
omit [Gls] in
theorem hget_hfl (h : Hp) (b : Bool) (s i : Nat) : hget (hfl h b) s i = if s = YS then none else hget h s i := by
  unfold hget hfl
  by_cases e : s = YS
  · subst e; simp
  · simp [e]
omit [Gls] in
theorem hnext_hfl (h : Hp) (b : Bool) (s : Nat) : hnext (hfl h b) s = hnext h s := by
  unfold hfl
  by_cases e : s = YS
  · subst e; simp [hnext]
  · unfold hnext; simp [e]
omit [Gls] in
theorem mps_hfl (h : Hp) (b : Bool) (s : Nat) : (Sx.hfl h b s).mps = (h s).mps := by
  unfold Sx.hfl; split
  · rename_i e; subst e; rfl
  · rfl
theorem Inv.hfl (hI : Inv F w A X h) (b : Bool) : Inv F w A X (Sx.hfl h b) := by
  have hg : ∀ {s i B}, hget (Sx.hfl h b) s i = some B → hget h s i = some B := by
    intro s i B hg
    rw [hget_hfl] at hg
    split at hg
    · cases hg
    · exact hg
  exact { gl := hI.gl, abd := hI.abd, aold := hI.aold, akeep := hI.akeep, os := hI.os, tape := hI.tape, output := hI.output, size := hI.size, same := hI.same, xle := hI.xle, nb := fun s => by rw [hnext_hfl]; exact hI.nb s, mi := hI.mi.step (mps_hfl h b) rfl rfl (fun _ _ _ h => h) (fun _ _ _ _ h => h), blk := fun s i B h => hI.blk s i B (hg h), inj := fun s i B s' i' B' h h' => hI.inj s i B s' i' B' (hg h) (hg h') }
theorem Inv.not_own (hI : Inv F w A X h) {l : Nat} {o : Obj} (ho : w.heap[l]? = some o) (hc : Obj.cellsB o = false) : ¬ ownM X h l := by
  rintro (⟨s, i, B, hg, hfz, hreal, rfl⟩ | ⟨s, i, m, hg, rfl⟩)
  · rcases (hI.blk s i B hg).mem with hm | ⟨arr, cap, g1, _⟩
    · exact hreal hm.1
    · rw [g1] at ho; cases ho; simp [Obj.cellsB] at hc
  · obtain ⟨es, clk, k1, _⟩ := (hI.mi.mp s i m hg).ob
    rw [k1] at ho; cases ho; simp [Obj.cellsB] at hc
end
def Mk (n : Nat) (A : Nat → Prop) (w : World) (ds : List Deferred) : Prop :=
  ds.Pairwise (· ≠ ·) ∧ ∀ d ∈ ds, ∃ D, d = { target := .collected D, args := #[] } ∧ n ≤ D ∧ w.heap[D]? = some (.deferred (some [])) ∧ ¬ A D
omit [Gls] in
theorem Mk.nil (n : Nat) (A : Nat → Prop) (w : World) : Mk n A w [] := ⟨.nil, fun d hd => by cases hd⟩
structure Carry (w : World) (A : Nat → Prop) (X : Refs) (w' : World) (A' : Nat → Prop) (X' : Refs) : Prop where
  rv : ∀ x v, RV w A X x v → RV w' A' X' x v
  dm : ∀ D, w.heap[D]? = some (.deferred (some [])) → ¬ A D → w'.heap[D]? = some (.deferred (some [])) ∧ ¬ A' D
omit [Gls] in
theorem Carry.of {w w' : World} {A A' : Nat → Prop} {X X' : Refs} (hL : Later w A w' A') (hX : Xle X X') : Carry w A X w' A' X' :=
  ⟨fun _ _ h => h.mono hL hX, fun D h hA => by
    have := hL.2 D (Array.getElem?_eq_some_iff.1 h).1 hA
    exact ⟨this.1.trans h, this.2⟩⟩
omit [Gls] in
theorem Carry.trans {w w' w'' : World} {A A' A'' : Nat → Prop} {X X' X'' : Refs} (h : Carry w A X w' A' X') (k : Carry w' A' X' w'' A'' X'') : Carry w A X w'' A'' X'' :=
  ⟨fun x v hv => k.rv x v (h.rv x v hv), fun D hD hA => k.dm D (h.dm D hD hA).1 (h.dm D hD hA).2⟩
omit [Gls] in
theorem Carry.put {w : World} {A : Nat → Prop} {X : Refs} {l : Nat} {r : Loop} (o' : Obj) (h : w.heap[l]? = some (.loop r)) : Carry w A X (w.putObj l o') A X :=
  ⟨fun x v hv => hv.calm (Calm.put o' h rfl), fun D hD hA => ⟨by rw [World.putObj_heap_other (by rintro rfl; rw [h] at hD; cases hD)]; exact hD, hA⟩⟩
omit [Gls] in
theorem Mk.carry {n : Nat} {w w' : World} {A A' : Nat → Prop} {X X' : Refs} {ds : List Deferred} (h : Mk n A w ds) (hc : Carry w A X w' A' X') : Mk n A' w' ds :=
  ⟨h.1, fun d hd => by
    obtain ⟨D, e, h1, h2, h3⟩ := h.2 d hd
    exact ⟨D, e, h1, (hc.dm D h2 h3).1, (hc.dm D h2 h3).2⟩⟩
structure R (F : Fr) (nt : Nat) (st : St) (a : Act) (w : World) : Prop where
  ex : ∃ A X, Inv F w A X st.h ∧ (∀ k, ((st.t k).1 = true → RV w A X (st.t k).2 (a.tmps.getD k undef)) ∧ ((st.t k).1 = false → a.tmps.getD k undef = undef)) ∧ Mk F.w0.heap.size A w a.defers
  sz : a.tmps.size = nt
omit [Gls] in
theorem put_get {a : Act} {d : Option Tmp} {v : Value} {k : Nat} (hd : dstOk a.tmps.size d) : (a.put d v).tmps.getD k undef = if d = some k then v else a.tmps.getD k undef := by
  cases d with
  | none => rfl
  | some d =>
    simp only [dstOk] at hd
    simp only [Act.put, Array.getD_eq_getD_getElem?, Array.getElem?_setIfInBounds]
    by_cases hk : d = k
    · subst hk; simp [hd]
    · simp [hk]
omit [Gls] in
theorem put_size {a : Act} {d : Option Tmp} {v : Value} : (a.put d v).tmps.size = a.tmps.size := by cases d <;> simp [Act.put]
omit [Gls] in
theorem put_df {a : Act} {d : Option Tmp} {v : Value} : (a.put d v).defers = a.defers := by cases d <;> rfl
omit [Gls] in
theorem upd_apply (t : Nat → Bool × V) (d : Option Nat) (x : Bool × V) (k : Nat) : upd t d x k = if d = some k then x else t k := by
  cases d with
  | none => rfl
  | some d =>
    simp only [upd, Option.some.injEq]
    by_cases hk : k = d
    · subst hk; simp
    · rw [if_neg hk, if_neg (fun e => hk e.symm)]
def wideR (rd : Option Nat) : Fence := { Fence.wide with round := rd }
omit [Gls] in
theorem callsIn_wideR {rd : Option Nat} {n : Nat} {P : Program} {f : FuncId} {args : Array Value} {w : World} {Q : Ending → World → Prop} : CallsIn (wideR rd) n P f args w Q ↔ Calls P f args w Q := callsIn_wide (n := n)
omit [Gls] in
theorem roundIn_wideR {rd : Option Nat} {n m : Nat} {P : Program} {l : Nat} {f : FuncId} {tmps : Array Value} {assign body : Code} {w : World} {Q : Ending → World → Prop} (h : RoundIn Fence.wide m P l f tmps assign body w Q) : RoundIn (wideR rd) n P l f tmps assign body w Q :=
  ⟨trivial, fun c cs _ => h.2 c cs (room_wide _)⟩
omit [Gls] in
theorem wp_wpIn {rd : Option Nat} {n : Nat} {P : Program} {o : Oper} {a : Act} {w : World} {next : Act → World → Prop} {Q : Exit → Act → World → Prop} (hd : ∀ c, o.op ≠ .defer c) (h : o.wp P a w next Q) : o.wpIn (wideR rd) n P a w next Q := by
  refine ⟨fun _ _ => trivial, ?_⟩
  rw [Oper.semAt_eq _ _ _ hd]
  unfold Oper.wp at h
  revert h
  cases (execOp a.eval o).run P w with
  | ok x w' =>
    cases x with
    | value v => exact id
    | skip => exact id
    | defer d => exact id
    | enter f args => exact fun h => ⟨(fun h => by cases h), callsIn_wideR.2 h⟩
    | row row args => exact fun h => ⟨(fun h => by cases h), fun c cs _ => by
        obtain ⟨v, w', r, s⟩ := h c cs
        exact ⟨v, w', r, stepsIn_wide.2 s⟩⟩
    | _ => exact fun h => h.elim
  | halt x w' => cases x <;> first | exact id | exact fun h => h.elim
end Go.Sx
