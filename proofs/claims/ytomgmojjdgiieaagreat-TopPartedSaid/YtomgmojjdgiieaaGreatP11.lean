/- Contracts, and the soundness of calls by them. No conditions. -/
import Derived.Test.YtomgmojjdgiieaaGreatP10
import Derived.RangeFuncNested
import Derived.RangeFuncLeaves
set_option linter.unusedSimpArgs false
set_option linter.unusedVariables false
set_option linter.unusedSectionVars false
namespace Go.Sx
open Go.RowKit
variable [Gls]
def PureOK (P : Program) (f : FuncId) (S : PSpec) : Prop :=
  ∀ d : S.dom, S.pre d → ∀ (w : World) (A : Nat → Prop) (vals : Array Value), GOK w A → (∀ b, A b → b < w.heap.size) → vals.size = (S.enc d).length →
    (∀ (i : Nat) (c : V), (S.enc d)[i]? = some c → PV w A c (vals.getD i und)) →
    Calls P f vals w fun e w' => ∃ v, e = .returned v ∧ Below w.heap.size w w' ∧ PV w' A (S.res d) v
def ownM (X : Refs) (h : Hp) (b : Nat) : Prop := (∃ s i B, hget h s i = some B ∧ B.fz = false ∧ (X.D s i).real ∧ (X.D s i).b = b) ∨ ∃ s i m, mget h s i = some m ∧ X.M s i = b
def HeapOK (P : Program) (f : FuncId) (S : HSpec) : Prop :=
  ∀ (args : List V) (h : Hp), (S.go args h).c → ∀ (w : World) (A : Nat → Prop) (X : Refs) (vals : Array Value), Inv ⟨w, A, X, ownM X h⟩ w A X h → vals.size = args.length →
    (∀ (i : Nat) (c : V), args[i]? = some c → RV w A X c (vals.getD i und)) →
    Calls P f vals w fun e w' => ∃ v A' X', e = .returned v ∧ Inv ⟨w, A, X, ownM X h⟩ w' A' X' (S.go args h).h ∧ RV w' A' X' (S.go args h).v v
def Fr.stop (F : Fr) (l : Nat) (r : Loop) : Fr := { F with w0 := F.w0.putObj l (.loop r) }
def BStab (l : Nat) (B : World → (Nat → Prop) → Refs → Prop) : Prop :=
  (∀ w A X, B w A X → ∃ r, w.heap[l]? = some (.loop r)) ∧
  ∀ w A X h w' A' X' h', B w A X → Inv ⟨w, A, X, ownM X h⟩ w A X h → Inv ⟨w, A, X, ownM X h⟩ w' A' X' h' → B w' A' X'
def Ends (F : Fr) (l : Nat) (Pr : Loop → Prop) (w' : World) (A' : Nat → Prop) (X' : Refs) (h' : Hp) : Prop :=
  (h' YS).blks = [] ∧ (((h' YS).fl = false ∧ Inv F w' A' X' h') ∨ ((h' YS).fl = true ∧ ∃ r : Loop, Pr r ∧ Inv (F.stop l r) w' A' X' h'))
def YOK0 (P : Program) (l : Nat) (Pr : Loop → Prop) (Y : HSpec) (B : World → (Nat → Prop) → Refs → Prop) : Prop :=
  ∀ (args : List V) (h : Hp), (Y.go args h).c → (h YS).blks = [] ∧ (h YS).fl = false ∧ ∀ (w : World) (A : Nat → Prop) (X : Refs) (vals : Array Value), B w A X → Inv ⟨w, A, X, ownM X h⟩ w A X h → vals.size = args.length →
    (∀ (i : Nat) (c : V), args[i]? = some c → RV w A X c (vals.getD i und)) →
    ∃ fn tmps assign body, (Instr.yield l vals).run P w = .ok (.round l fn tmps assign body) w ∧ RoundIn Fence.wide 0 P l fn tmps assign body w fun e w' =>
      ∃ v A' X', e = .returned v ∧ Ends ⟨w, A, X, ownM X h⟩ l Pr w' A' X' (Y.go args h).h ∧ RV w' A' X' (Y.go args h).v v
def IterOK (P : Program) (f : FuncId) (S : Nat → HSpec → HSpec) : Prop :=
  ∀ (l : Nat) (Y : HSpec) (Pr : Loop → Prop) (B : World → (Nat → Prop) → Refs → Prop), BStab l B → YOK0 P l Pr Y B → ∀ (args : List V) (h : Hp), ((S l Y).go args h).c → (h YS).blks = [] → (h YS).fl = false →
    ∀ (w : World) (A : Nat → Prop) (X : Refs) (vals : Array Value), B w A X → Inv ⟨w, A, X, ownM X h⟩ w A X h → vals.size = args.length →
    (∀ (i : Nat) (c : V), args[i]? = some c → RV w A X c (vals.getD i und)) →
    Calls P f vals w fun e w' => ∃ v A' X', e = .returned v ∧ Ends ⟨w, A, X, ownM X h⟩ l Pr w' A' X' ((S l Y).go args h).h ∧ RV w' A' X' ((S l Y).go args h).v v
structure FnOK (P : Program) (f : FuncId) (S : Spec) : Prop where
  call : ∀ (args : Array Value) (w : World), (callFunc f args).run P w = .ok (.enter f args) w
  pure : ∀ S', S = .pure S' → PureOK P f S'
  heap : ∀ S', S = .heap S' → HeapOK P f S'
  iter : ∀ S', S = .iter S' → IterOK P f S'
def TblOK (E : Env) : Prop := ∀ f S, E.fn f = some S → FnOK E.P f S
section
variable {F : Fr} {w : World} {A : Nat → Prop} {X : Refs} {h : Hp} {P : Program}
theorem Inv.below (hI : Inv F w A X h) {w' : World} (hb : Below w.heap.size w w') : Later w A w' A ∧ Inv F w' A X h := by
  have hL : Later w A w' A := ⟨hb.size, fun b hlt hA => ⟨hb.block b hlt, hA⟩⟩
  refine ⟨hL, { gl := hI.gl.mono hL, abd := ?_, aold := hI.aold, akeep := hI.akeep, os := hb.os.trans hI.os, tape := hb.tape.trans hI.tape, output := hb.output.trans hI.output, size := Nat.le_trans hI.size hb.size, same := ?_, xle := hI.xle, nb := hI.nb, mi := hI.mi.step (fun _ => rfl) rfl rfl (fun b es clk hm => by rw [hb.block b (Array.getElem?_eq_some_iff.1 hm).1]; exact hm) (fun _ _ _ _ h => h), blk := ?_, inj := hI.inj }⟩
  · intro b hA; have := hI.abd b hA; have := hb.size; omega
  · intro b hlt hM; have := hI.size; rw [hb.block b (by omega)]; exact hI.same b hlt hM
  intro s i B hB
  have ho := hI.blk s i B hB
  refine { hN := ho.hN, hz := ho.hz, hlen := ho.hlen, rows := ho.rows, mem := ?_ }
  rcases ho.mem with hm | ⟨arr, cap, h1, h2, h3, h4, h5, h6, h7, h8⟩
  · exact .inl hm
  · have hlt : (X.D s i).b < w.heap.size := (Array.getElem?_eq_some_iff.1 h1).1
    refine .inr ⟨arr, cap, by rw [hb.block _ hlt]; exact h1, h2, h3, h4, h5, ?_, h7, h8⟩
    intro e j row c he hj
    obtain ⟨u, g1, g2, g3, g4⟩ := h6 e j row c he hj
    exact ⟨u, g1, g2, g3.mono hL (Xle.refl X), fun hcl => (g4 hcl).mono hL⟩
def lentA (A : Nat → Prop) (X : Refs) (h : Hp) (b : Nat) : Prop := A b ∧ ¬ ownM X h b
omit [Gls] in
theorem PV.lent {x : V} {u : Value} (hx : PV w A x u) : PV w (lentA A X h) x u := hx.mono ⟨Nat.le_refl _, fun _ _ hA => ⟨rfl, fun hl => hA hl.1⟩⟩
omit [Gls] in
theorem lendCs_get {g : V → Prop × V} : ∀ (cs : List V) (j : Nat) (c : V), (lendCs g cs).1 → (lendCs g cs).2[j]? = some c → ∃ x, cs[j]? = some x ∧ (g x).2 = c ∧ (g x).1 ∧ x.leaf = true
  | [], j, c, _, h => by simp [lendCs] at h
  | x :: cs, 0, c, hc, h => by simp [lendCs] at h; exact ⟨x, rfl, h, hc.1.2, hc.1.1⟩
  | x :: cs, j + 1, c, hc, h => by simp only [lendCs, List.getElem?_cons_succ] at h ⊢; exact lendCs_get cs j c hc.2 h
omit [Gls] in
theorem lendCs_len (g : V → Prop × V) : ∀ (cs : List V), (lendCs g cs).2.length = cs.length
  | [] => rfl
  | x :: cs => by simp [lendCs, lendCs_len g cs]
omit [Gls] in
theorem lendRs_get {g : V → Prop × V} : ∀ (rs : List (List V)) (e : Nat) (row : List V), (lendRs g rs).1 → (lendRs g rs).2[e]? = some row → ∃ x, rs[e]? = some x ∧ (lendCs g x).2 = row ∧ (lendCs g x).1
  | [], e, row, _, h => by simp [lendRs] at h
  | x :: rs, 0, row, hc, h => by simp [lendRs] at h; exact ⟨x, rfl, h, hc.1⟩
  | x :: rs, e + 1, row, hc, h => by simp only [lendRs, List.getElem?_cons_succ] at h ⊢; exact lendRs_get rs e row hc.2 h
omit [Gls] in
theorem lendRs_len (g : V → Prop × V) : ∀ (rs : List (List V)), (lendRs g rs).2.length = rs.length
  | [] => rfl
  | x :: rs => by simp [lendRs, lendRs_len g rs]
omit [Gls] in
theorem lendB_len (g : V → Prop × V) (B : Blk) : (lendB g B).2.length = B.els.length := by
  unfold lendB; split
  · rfl
  · exact lendRs_len g _
omit [Gls] in
theorem lendB_nil {g : V → Prop × V} {B : Blk} (h : B.els = []) : (lendB g B).2 = [] := List.eq_nil_of_length_eq_zero (by rw [lendB_len, h]; rfl)
theorem lent_block {A' : Nat → Prop} {g : V → Prop × V} {G : V → Prop} (hm : ∀ x u, PV w A x u → PV w A' x u) (hgs : ∀ x u, RV w A X x u → (g x).1 → x.leaf = true → G x → PV w A' (g x).2 u) (hI : Inv F w A X h) {s i : Nat} {B : Blk} (hg : hget h s i = some B) (hc : (lendB g B).1) {arr : Array Value} {cap : Nat} (h1 : w.heap[(X.D s i).b]? = some (.cells arr B.ty (0, 0))) (h2 : (X.D s i).v = .slice (some ⟨(X.D s i).b, (X.D s i).o, none⟩) B.els.length cap)
    (h6 : ∀ e j row c, B.els[e]? = some row → row[j]? = some c → ∃ u, arr[(X.D s i).o + e * B.z + j]? = some u ∧ u.oneCell' = true ∧ RV w A X c u ∧ (B.cl = true → PV w A c u)) (hG : B.cl = false → ∀ row ∈ B.els, ∀ c ∈ row, G c) (hnb : ¬ A' (X.D s i).b) :
    (X.D s i).b < w.heap.size ∧ ¬ A' (X.D s i).b ∧ (∀ row ∈ (lendB g B).2, row.length = B.z) ∧
      (∀ e j row c, (lendB g B).2[e]? = some row → row[j]? = some c → w.cell? ⟨(X.D s i).b, (X.D s i).o + e * B.z + j, none⟩ = some ((w.cell? ⟨(X.D s i).b, (X.D s i).o + e * B.z + j, none⟩).getD und) ∧ ((w.cell? ⟨(X.D s i).b, (X.D s i).o + e * B.z + j, none⟩).getD und).oneCell' = true) ∧
      (∀ e j row c, (lendB g B).2[e]? = some row → row[j]? = some c → PV w (A') c ((w.cell? ⟨(X.D s i).b, (X.D s i).o + e * B.z + j, none⟩).getD und)) := by
  have hb := hI.blk s i B hg
  have hcell : ∀ e j row c, (lendB g B).2[e]? = some row → row[j]? = some c → ∃ u, w.cell? ⟨(X.D s i).b, (X.D s i).o + e * B.z + j, none⟩ = some u ∧ u.oneCell' = true ∧ PV w (A') c u := by
    intro e j row c he hj
    unfold lendB at he hc
    split at he
    · rename_i hcl
      obtain ⟨u, k1, k2, k3, k4⟩ := h6 e j row c he hj
      exact ⟨u, by simp [World.cell?, h1, k1], k2, hm _ _ (k4 hcl)⟩
    · rename_i hcl
      rw [hcl] at hc
      obtain ⟨row0, e1, e2, e3⟩ := lendRs_get _ _ _ hc he
      subst e2
      obtain ⟨c0, f1, f2, f3, f4⟩ := lendCs_get _ _ _ e3 hj
      subst f2
      obtain ⟨u, k1, k2, k3, k4⟩ := h6 e j row0 c0 e1 f1
      exact ⟨u, by simp [World.cell?, h1, k1], k2, hgs c0 u k3 f3 f4 (hG (by simpa using hcl) row0 (List.mem_of_getElem? e1) c0 (List.mem_of_getElem? f1))⟩
  refine ⟨(Array.getElem?_eq_some_iff.1 h1).1, hnb, fun row hrow => ?_, fun e j row c he hj => ?_, fun e j row c he hj => ?_⟩
  · unfold lendB at hrow hc
    split at hrow
    · exact hb.rows row hrow
    · rename_i hcl
      rw [hcl] at hc
      obtain ⟨e, he⟩ := List.getElem?_of_mem hrow
      obtain ⟨row0, e1, e2, e3⟩ := lendRs_get _ _ _ hc he
      rw [← e2, lendCs_len]
      exact hb.rows row0 (List.mem_of_getElem? e1)
  · obtain ⟨u, k1, k2, k3⟩ := hcell e j row c he hj
    rw [k1]; exact ⟨rfl, k2⟩
  · obtain ⟨u, k1, k2, k3⟩ := hcell e j row c he hj
    rw [k1]; exact k3
omit [Gls] in
theorem leaf_shape {x : V} (h : x.leaf = true) : ¬ (∃ cs, x = .agg cs) ∧ ¬ (∃ cs, x = .tup cs) ∧ ¬ (∃ f c cs, x = .fn f (c :: cs)) :=
  ⟨by rintro ⟨cs, rfl⟩; simp [V.leaf] at h, by rintro ⟨cs, rfl⟩; simp [V.leaf] at h, by rintro ⟨f, c, cs, rfl⟩; simp [V.leaf] at h⟩
theorem lendX_sound {A' : Nat → Prop} {g : V → Prop × V} {G : V → Prop} (hm : ∀ x u, PV w A x u → PV w A' x u) (hgs : ∀ x u, RV w A X x u → (g x).1 → x.leaf = true → G x → PV w A' (g x).2 u) (hI : Inv F w A X h) {x : V} {u : Value} (hr : RV w A X x u)
    (hat : ∀ s i B, x.at? = some (s, i) → hget h s i = some B → ((X.D s i).real → (B.fz = true → ¬ A (X.D s i).b) → ¬ A' (X.D s i).b) ∧ (B.cl = false → ∀ row ∈ B.els, ∀ c ∈ row, G c))
    (hmap : ∀ s i m, x = .bmp s i → mget h s i = some m → ¬ A' (X.M s i))
    (hshape : ¬ (∃ cs, x = .agg cs) ∧ ¬ (∃ cs, x = .tup cs) ∧ ¬ (∃ f c cs, x = .fn f (c :: cs))) {y : Prop × V}
    (hy : y = match x with
      | .bsl s i n => (match hget h s i with
        | some B => (n = B.els.length ∧ (lendB g B).1, .sl B.z (lendB g B).2)
        | none => (False, .top))
      | .osl s i n off len cap => (match hget h s i with
        | some B => (n = B.els.length ∧ off + len ≤ B.els.length ∧ (lendB g B).1 ∧ len ≤ cap, .sl B.z (((lendB g B).2.drop off).take len))
        | none => (False, .top))
      | .bptr s i n e j => (match hget h s i with
        | some B => (n = B.els.length ∧ (lendB g B).1 ∧ B.els ≠ [], .ip B.z (lendB g B).2 e j)
        | none => (False, .top))
      | .bmp s i => (match mget h s i with
        | some m => (True, .mpi m)
        | none => (False, .top))
      | v => (True, v)) (hc : y.1) : PV w (A') y.2 u := by
  subst hy
  cases x <;> simp only at hc ⊢
  case agg cs => exact absurd ⟨cs, rfl⟩ hshape.1
  case tup cs => exact absurd ⟨cs, rfl⟩ hshape.2.1
  case fn f cs =>
    cases cs with
    | nil => exact hm _ _ (PV.of_refFree1 hr rfl)
    | cons c cs => exact absurd ⟨f, c, cs, rfl⟩ hshape.2.2
  case bsl s i n =>
    cases hg : hget h s i with
    | none => simp [hg] at hc
    | some B =>
      simp only [hg] at hc ⊢
      obtain ⟨hn, hcl⟩ := hc
      obtain ⟨a, c, rfl, hN, hn', hv⟩ := hr.bsl_inv
      have hb := hI.blk s i B hg
      have hv' := hv (by rw [hb.hlen]; exact hn)
      rcases hb.mem with ⟨h1, h2⟩ | ⟨arr, cap, h1, h2, h3, h4, h5, h6, h7, h8⟩
      · rw [h1] at hv'
        injection hv' with e1 e2 e3
        subst e1 e2
        rw [lendB_nil h2]; exact .sl0 _ _ _
      · rw [h2] at hv'
        injection hv' with e1 e2 e3
        subst e1 e2
        obtain ⟨g1, g2, g3, g4, g5⟩ := lent_block hm hgs hI hg hcl h1 h2 h6 (hat s i B rfl hg).2 ((hat s i B rfl hg).1 (by unfold Hd.real; rw [h2]; simp) h7)
        have hll := lendB_len g B
        have := PV.sl (w := w) (A := A') B.z (lendB g B).2 (X.D s i).b (X.D s i).o c _ (by omega) g1 g2 g3 g4 g5
        rw [hll] at this; exact this
  case bptr s i n e j =>
    cases hg : hget h s i with
    | none => simp [hg] at hc
    | some B =>
      simp only [hg] at hc ⊢
      obtain ⟨hn, hcl, hne⟩ := hc
      obtain ⟨a, rfl, hN, hn', hv⟩ := hr.bptr_inv
      have hb := hI.blk s i B hg
      have hv' := hv (by rw [hb.hlen]; exact hn)
      rw [hb.hz] at hv'
      subst hv'
      rcases hb.mem with ⟨_, h2⟩ | ⟨arr, cap, h1, h2, h3, h4, h5, h6, h7, h8⟩
      · exact absurd h2 hne
      · obtain ⟨g1, g2, g3, g4, g5⟩ := lent_block hm hgs hI hg hcl h1 h2 h6 (hat s i B rfl hg).2 ((hat s i B rfl hg).1 (by unfold Hd.real; rw [h2]; simp) h7)
        have := PV.ip (w := w) (A := A') B.z (lendB g B).2 e j _ (X.D s i).o _ g1 g2 g3 g4 g5
        exact this
  case osl s i n off len cap =>
    cases hg : hget h s i with
    | none => simp [hg] at hc
    | some B =>
      simp only [hg] at hc ⊢
      obtain ⟨hn, hl, hcl, hcp⟩ := hc
      obtain ⟨a, c', rfl, hcc, hN, hn', hv⟩ := hr.osl_inv
      have hb := hI.blk s i B hg
      have hv' := (hv (by rw [hb.hlen]; exact hn)).1
      rw [hb.hz] at hv'
      subst hv'
      have hll := lendB_len g B
      have hlen : (((lendB g B).2.drop off).take len).length = len := by simp; omega
      by_cases h0 : len = 0
      · have : ((lendB g B).2.drop off).take len = [] := List.eq_nil_of_length_eq_zero (by omega)
        rw [this, h0]; exact .sl0 _ _ _
      rcases hb.mem with ⟨_, h2⟩ | ⟨arr, cap', h1, h2, h3, h4, h5, h6, h7, h8⟩
      · rw [h2] at hl; simp at hl; omega
      · obtain ⟨g1, g2, g3, g4, g5⟩ := lent_block hm hgs hI hg hcl h1 h2 h6 (hat s i B rfl hg).2 ((hat s i B rfl hg).1 (by unfold Hd.real; rw [h2]; simp) h7)
        have get : ∀ (e : Nat) (row : List V), (((lendB g B).2.drop off).take len)[e]? = some row → (lendB g B).2[off + e]? = some row := by
          intro e row he
          have hlt : e < len := by have := (List.getElem?_eq_some_iff.1 he).1; omega
          rw [List.getElem?_take_of_lt hlt, List.getElem?_drop] at he
          exact he
        have := PV.sl (w := w) (A := A') B.z (((lendB g B).2.drop off).take len) (X.D s i).b ((X.D s i).o + off * B.z) c' (fun e j => (w.cell? ⟨(X.D s i).b, (X.D s i).o + (off + e) * B.z + j, none⟩).getD und) (by omega) g1 g2 (fun row hr => g3 row (List.mem_of_mem_drop (List.mem_of_mem_take hr)))
          (fun e j row c he hj => by
            have := g4 _ j row c (get e row he) hj
            rw [show (X.D s i).o + off * B.z + e * B.z + j = (X.D s i).o + (off + e) * B.z + j by rw [Nat.add_mul]; omega]; exact this)
          (fun e j row c he hj => g5 _ j row c (get e row he) hj)
        rw [hlen] at this; exact this
  case bmp s i =>
    cases hg : mget h s i with
    | none => simp [hg] at hc
    | some m =>
      simp only [hg]
      obtain ⟨rfl, _⟩ := hr.bmp_inv
      obtain ⟨es, clk, k1, k2⟩ := (hI.mi.mp s i m hg).ob
      exact .mpi m _ es clk k1 (hmap s i m rfl hg) k2
  all_goals exact hm _ _ (PV.of_refFree1 hr rfl)
omit [Gls] in
theorem lent_at {x : V} : ∀ s i B, x.at? = some (s, i) → hget h s i = some B → ((X.D s i).real → (B.fz = true → ¬ A (X.D s i).b) → ¬ lentA A X h (X.D s i).b) ∧ (B.cl = false → ∀ row ∈ B.els, ∀ c ∈ row, True) := by
  intro s i B _ hg
  refine ⟨fun hr h7 => ?_, fun _ _ _ _ _ => trivial⟩
  rintro ⟨ha, hno⟩
  cases hfz : B.fz with
  | true => exact h7 hfz ha
  | false => exact hno (.inl ⟨s, i, B, hg, hfz, hr, rfl⟩)
omit [Gls] in
theorem lent_map {x : V} : ∀ s i m, x = .bmp s i → mget h s i = some m → ¬ lentA A X h (X.M s i) := fun s i m _ hg hA => hA.2 (.inr ⟨s, i, m, hg, rfl⟩)
theorem lendN_sound (hI : Inv F w A X h) : ∀ (f : Nat) (x : V) (u : Value), RV w A X x u → (lendN f h x).1 → ¬ (∃ cs, x = .agg cs) ∧ ¬ (∃ cs, x = .tup cs) ∧ ¬ (∃ f c cs, x = .fn f (c :: cs)) → PV w (lentA A X h) (lendN f h x).2 u
  | 0, x, u, hr, hc, hs => by
    refine lendX_sound (G := fun _ => True) (g := fun _ => (False, .top)) (fun x u => PV.lent) (fun x u _ hf => hf.elim) hI hr (lent_at (h := h)) (lent_map (h := h)) hs (y := lendN 0 h x) ?_ hc
    cases x <;> simp only [lendN]
    case bmp s i => rfl
    all_goals
      cases hg : hget h _ _ with
      | none => rfl
      | some B =>
        simp only [lendB]
        cases hcl : B.cl with
        | true => simp
        | false =>
          simp only [lendN, hg, hcl] at hc
          simp at hc
  | f + 1, x, u, hr, hc, hs => by
    refine lendX_sound (G := fun _ => True) (g := lendN f h) (fun x u => PV.lent) (fun x u hx hf hl _ => lendN_sound hI f x u hx hf (leaf_shape hl)) hI hr (lent_at (h := h)) (lent_map (h := h)) hs (y := lendN (f + 1) h x) ?_ hc
    cases x <;> simp only [lendN]
    case bmp s i => rfl
    all_goals (cases hget h _ _ <;> rfl)
omit [Gls] in
theorem fzCs_mem {g : V → Prop} : ∀ {cs : List V}, fzCs g cs → ∀ c ∈ cs, g c
  | [], _, c, hc => by simp at hc
  | x :: cs, h, c, hc => by
    rcases List.mem_cons.1 hc with rfl | hc
    · exact h.1
    · exact fzCs_mem h.2 c hc
omit [Gls] in
theorem fzRs_mem {g : V → Prop} : ∀ {rs : List (List V)}, fzRs g rs → ∀ r ∈ rs, ∀ c ∈ r, g c
  | [], _, r, hr => by simp at hr
  | x :: rs, h, r, hr => by
    rcases List.mem_cons.1 hr with rfl | hr
    · exact fzCs_mem h.1
    · exact fzRs_mem h.2 r hr
omit [Gls] in
theorem fzN_at {x : V} {s i : Nat} (ha : x.at? = some (s, i)) : fzN 0 h x = (match hget h s i with | some B => B.fz = true | none => False) := by
  cases x <;> simp only [V.at?, Option.some.injEq, Prod.mk.injEq, reduceCtorEq] at ha <;> (obtain ⟨rfl, rfl⟩ := ha; rfl)
omit [Gls] in
theorem fzN_atS {f : Nat} {x : V} {s i : Nat} (ha : x.at? = some (s, i)) : fzN (f + 1) h x = (match hget h s i with | some B => B.fz = true ∧ (B.cl = true ∨ fzRs (fzN f h) B.els) | none => False) := by
  cases x <;> simp only [V.at?, Option.some.injEq, Prod.mk.injEq, reduceCtorEq] at ha <;> (obtain ⟨rfl, rfl⟩ := ha; rfl)
theorem fzN_sound (hI : Inv F w A X h) : ∀ (f : Nat) (x : V) (u : Value), RV w A X x u → (lendN f h x).1 → fzN f h x → ¬ (∃ cs, x = .agg cs) ∧ ¬ (∃ cs, x = .tup cs) ∧ ¬ (∃ f c cs, x = .fn f (c :: cs)) → PV w A (lendN f h x).2 u
  | 0, x, u, hr, hc, hz, hs => by
    refine lendX_sound (G := fun _ => True) (g := fun _ => (False, .top)) (fun _ _ h => h) (fun x u _ hf => hf.elim) hI hr (fun s i B ha hg => by
      rw [fzN_at ha] at hz
      simp only [hg] at hz
      exact ⟨fun _ h7 => h7 hz, fun _ _ _ _ _ => trivial⟩) (fun s i m e _ => by subst e; simp [fzN] at hz) hs (y := lendN 0 h x) ?_ hc
    cases x <;> simp only [lendN]
    case bmp s i => rfl
    all_goals
      cases hg : hget h _ _ with
      | none => rfl
      | some B =>
        simp only [lendB]
        cases hcl : B.cl with
        | true => simp
        | false =>
          simp only [lendN, hg, hcl] at hc
          simp at hc
  | f + 1, x, u, hr, hc, hz, hs => by
    refine lendX_sound (G := fzN f h) (g := lendN f h) (fun _ _ h => h) (fun x u hx hf hl hG => fzN_sound hI f x u hx hf hG (leaf_shape hl)) hI hr (fun s i B ha hg => by
      rw [fzN_atS ha] at hz
      simp only [hg] at hz
      refine ⟨fun _ h7 => h7 hz.1, fun hcl row hrow c hc => ?_⟩
      exact fzRs_mem (hz.2.resolve_left (by simp [hcl])) row hrow c hc) (fun s i m e _ => by subst e; simp [fzN] at hz) hs (y := lendN (f + 1) h x) ?_ hc
    cases x <;> simp only [lendN]
    case bmp s i => rfl
    all_goals (cases hget h _ _ <;> rfl)
theorem lend1_sound (hI : Inv F w A X h) {x : V} {u : Value} (hr : RV w A X x u) (hc : (lend1 h x).1) (hshape : ¬ (∃ cs, x = .agg cs) ∧ ¬ (∃ cs, x = .tup cs) ∧ ¬ (∃ f c cs, x = .fn f (c :: cs))) : PV w (lentA A X h) (lend1 h x).2 u :=
  lendN_sound hI 3 x u hr hc hshape
omit [Gls] in
theorem lends1_get (h : Hp) : ∀ (cs : List V) (i : Nat) (c : V), (lends1 h cs).2[i]? = some c → ∃ x, cs[i]? = some x ∧ (lend1 h x).2 = c
  | [], i, c, hc => by simp [lends1] at hc
  | x :: cs, 0, c, hc => by simp [lends1] at hc; exact ⟨x, rfl, hc⟩
  | x :: cs, i + 1, c, hc => by simp only [lends1, List.getElem?_cons_succ] at hc ⊢; exact lends1_get h cs i c hc
omit [Gls] in
theorem lends1_len (h : Hp) : ∀ (cs : List V), (lends1 h cs).2.length = cs.length
  | [] => rfl
  | x :: cs => by simp [lends1, lends1_len h cs]
omit [Gls] in
theorem lends1_cond (h : Hp) : ∀ (cs : List V), (lends1 h cs).1 → ∀ x ∈ cs, (lend1 h x).1
  | [], _, x, hx => by simp at hx
  | y :: cs, hc, x, hx => by
    rcases List.mem_cons.1 hx with rfl | hx
    · exact hc.1
    · exact lends1_cond h cs hc.2 x hx
omit [Gls] in
theorem lends_get (h : Hp) : ∀ (cs : List V) (i : Nat) (c : V), (lends h cs).2[i]? = some c → ∃ x, cs[i]? = some x ∧ (lend h x).2 = c
  | [], i, c, hc => by simp [lends] at hc
  | x :: cs, 0, c, hc => by simp [lends] at hc; exact ⟨x, rfl, hc⟩
  | x :: cs, i + 1, c, hc => by simp only [lends, List.getElem?_cons_succ] at hc ⊢; exact lends_get h cs i c hc
omit [Gls] in
theorem lends_len (h : Hp) : ∀ (cs : List V), (lends h cs).2.length = cs.length
  | [] => rfl
  | x :: cs => by simp [lends, lends_len h cs]
omit [Gls] in
theorem lends_cond (h : Hp) : ∀ (cs : List V), (lends h cs).1 → ∀ x ∈ cs, (lend h x).1
  | [], _, x, hx => by simp at hx
  | y :: cs, hc, x, hx => by
    rcases List.mem_cons.1 hx with rfl | hx
    · exact hc.1
    · exact lends_cond h cs hc.2 x hx
theorem lend_sound (hI : Inv F w A X h) {x : V} {u : Value} (hr : RV w A X x u) (hc : (lend h x).1) (hshape : x.argOk = true) : PV w (lentA A X h) (lend h x).2 u := by
  unfold V.argOk at hshape
  cases x with
  | agg cs =>
    obtain ⟨us, rfl, hl, hcs⟩ := hr.agg_inv
    simp only [lend] at hc ⊢
    simp only [List.all_eq_true] at hshape
    refine .agg _ us (by rw [hl, lends1_len]) fun i c hi => ?_
    obtain ⟨x, hx, rfl⟩ := lends1_get h cs i c hi
    exact lend1_sound hI (hcs i x hx) (lends1_cond h cs hc x (List.mem_of_getElem? hx)) (leaf_shape (hshape x (List.mem_of_getElem? hx)))
  | fn f cs =>
    obtain ⟨us, rfl, hl, hcs⟩ := hr.fn_inv
    simp only [lend] at hc ⊢
    simp only [List.all_eq_true] at hshape
    refine .fn f _ us (by rw [hl, lends1_len]) fun i c hi => ?_
    obtain ⟨x, hx, rfl⟩ := lends1_get h cs i c hi
    exact lend1_sound hI (hcs i x hx) (lends1_cond h cs hc x (List.mem_of_getElem? hx)) (leaf_shape (hshape x (List.mem_of_getElem? hx)))
  | tup cs => simp at hshape
  | _ => exact lend1_sound hI hr hc ⟨(by rintro ⟨cs, hh⟩; cases hh), (by rintro ⟨cs, hh⟩; cases hh), (by rintro ⟨f, c, cs, hh⟩; cases hh)⟩
theorem fzA_sound (hI : Inv F w A X h) {x : V} {u : Value} (hr : RV w A X x u) (hc : (lend h x).1) (hz : fzA h x) (hshape : x.argOk = true) : PV w A (lend h x).2 u := by
  unfold V.argOk at hshape
  cases x with
  | agg cs =>
    obtain ⟨us, rfl, hl, hcs⟩ := hr.agg_inv
    simp only [lend] at hc ⊢
    simp only [fzA] at hz
    simp only [List.all_eq_true] at hshape
    refine .agg _ us (by rw [hl, lends1_len]) fun i c hi => ?_
    obtain ⟨x, hx, rfl⟩ := lends1_get h cs i c hi
    exact fzN_sound hI 3 x _ (hcs i x hx) (lends1_cond h cs hc x (List.mem_of_getElem? hx)) (fzCs_mem hz x (List.mem_of_getElem? hx)) (leaf_shape (hshape x (List.mem_of_getElem? hx)))
  | fn f cs =>
    obtain ⟨us, rfl, hl, hcs⟩ := hr.fn_inv
    simp only [lend] at hc ⊢
    simp only [fzA] at hz
    simp only [List.all_eq_true] at hshape
    refine .fn f _ us (by rw [hl, lends1_len]) fun i c hi => ?_
    obtain ⟨x, hx, rfl⟩ := lends1_get h cs i c hi
    exact fzN_sound hI 3 x _ (hcs i x hx) (lends1_cond h cs hc x (List.mem_of_getElem? hx)) (fzCs_mem hz x (List.mem_of_getElem? hx)) (leaf_shape (hshape x (List.mem_of_getElem? hx)))
  | tup cs => simp at hshape
  | _ => exact fzN_sound hI 3 _ _ hr hc hz ⟨(by rintro ⟨cs, hh⟩; cases hh), (by rintro ⟨cs, hh⟩; cases hh), (by rintro ⟨f, c, cs, hh⟩; cases hh)⟩
omit [Gls] in
theorem sub0_sound {x y : V} {u : Value} (hs : sub0 x y) (hr : PV w A x u) : PV w A y u := by
  unfold sub0 at hs
  split at hs
  · exact .top u
  · cases hr; exact .sl0 _ _ _
  · cases hr; exact .sl0 _ _ _
  · subst hs; exact hr
omit [Gls] in
theorem subs0_sound : ∀ (xs ys : List V), subs0 xs ys → xs.length = ys.length ∧ ∀ (i : Nat) (y : V), ys[i]? = some y → ∃ x, xs[i]? = some x ∧ sub0 x y
  | [], [], _ => ⟨rfl, fun i y hy => by simp at hy⟩
  | [], _ :: _, hs => hs.elim
  | _ :: _, [], hs => hs.elim
  | x :: xs, y :: ys, hs => by
    obtain ⟨h1, h2⟩ := subs0_sound xs ys hs.2
    refine ⟨by simp [h1], fun i y' hy => ?_⟩
    cases i with
    | zero => simp at hy; subst hy; exact ⟨x, rfl, hs.1⟩
    | succ i => simpa using h2 i y' (by simpa using hy)
omit [Gls] in
theorem sub1_sound {x y : V} {u : Value} (hs : sub1 x y) (hr : PV w A x u) : PV w A y u := by
  unfold sub1 at hs
  split at hs
  · rename_i xs ys
    obtain ⟨hl, hg⟩ := subs0_sound xs ys hs
    cases hr with
    | agg _ us hl' hc =>
      refine .agg ys us (by omega) fun i c hi => ?_
      obtain ⟨x, hx, hsub⟩ := hg i c hi
      exact sub0_sound hsub (hc i x hx)
  · exact sub0_sound hs hr
omit [Gls] in
theorem subs1_sound : ∀ (xs ys : List V), subs1 xs ys → xs.length = ys.length ∧ ∀ (i : Nat) (y : V), ys[i]? = some y → ∃ x, xs[i]? = some x ∧ sub1 x y
  | [], [], _ => ⟨rfl, fun i y hy => by simp at hy⟩
  | [], _ :: _, hs => hs.elim
  | _ :: _, [], hs => hs.elim
  | x :: xs, y :: ys, hs => by
    obtain ⟨h1, h2⟩ := subs1_sound xs ys hs.2
    refine ⟨by simp [h1], fun i y' hy => ?_⟩
    cases i with
    | zero => simp at hy; subst hy; exact ⟨x, rfl, hs.1⟩
    | succ i => simpa using h2 i y' (by simpa using hy)
omit [Gls] in
theorem sub_sound {x y : V} {u : Value} (hs : sub x y) (hr : PV w A x u) : PV w A y u := by
  unfold sub at hs
  split at hs
  · rename_i xs ys
    obtain ⟨hl, hg⟩ := subs1_sound xs ys hs
    cases hr with
    | tup _ us hl' hc =>
      refine .tup ys us (by omega) fun i c hi => ?_
      obtain ⟨x, hx, hsub⟩ := hg i c hi
      exact sub1_sound hsub (hc i x hx)
  · exact sub1_sound hs hr
omit [Gls] in
theorem sub0_soundR {x y : V} {u : Value} (hs : sub0 x y) (hr : RV w A X x u) : RV w A X y u := by
  unfold sub0 at hs
  split at hs
  · exact .pure (.top u)
  · rw [hr.nil_inv]; exact .pure (.sl0 _ _ _)
  · obtain ⟨a, rfl⟩ := hr.emp_inv; exact .pure (.sl0 _ _ _)
  · subst hs; exact hr
omit [Gls] in
theorem sub1_soundR {x y : V} {u : Value} (hs : sub1 x y) (hr : RV w A X x u) : RV w A X y u := by
  unfold sub1 at hs
  split at hs
  · rename_i xs ys
    obtain ⟨hl, hg⟩ := subs0_sound xs ys hs
    obtain ⟨us, rfl, hl', hc⟩ := hr.agg_inv
    refine .agg ys us (by omega) fun i c hi => ?_
    obtain ⟨x, hx, hsub⟩ := hg i c hi
    exact sub0_soundR hsub (hc i x hx)
  · exact sub0_soundR hs hr
omit [Gls] in
theorem sub_soundR {x y : V} {u : Value} (hs : sub x y) (hr : RV w A X x u) : RV w A X y u := by
  unfold sub at hs
  split at hs
  · rename_i xs ys
    obtain ⟨hl, hg⟩ := subs1_sound xs ys hs
    obtain ⟨us, rfl, hl', hc⟩ := hr.tup_inv
    refine .tup ys us (by omega) fun i c hi => ?_
    obtain ⟨x, hx, hsub⟩ := hg i c hi
    exact sub1_soundR hsub (hc i x hx)
  · exact sub1_soundR hs hr
omit [Gls] in
theorem scal1_any {A' : Nat → Prop} {x : V} {u : Value} (hs : x.scal1 = true) (hr : PV w A x u) : PV w A' x u := by
  cases hr <;> simp [V.scal1] at hs
  · exact .int _ _
  · exact .bool _
  · exact .nil
  · exact .nilp
  · exact .nilf
  · exact .nilm
omit [Gls] in
theorem scal_any {A' : Nat → Prop} {x : V} {u : Value} (hs : x.scal = true) (hr : PV w A x u) : PV w A' x u := by
  cases x with
  | tup cs =>
    simp only [V.scal, List.all_eq_true] at hs
    cases hr with
    | tup _ us hl hc => exact .tup cs us hl fun i c hi => scal1_any (hs c (List.mem_of_getElem? hi)) (hc i c hi)
  | agg cs =>
    simp only [V.scal, List.all_eq_true] at hs
    cases hr with
    | agg _ us hl hc => exact .agg cs us hl fun i c hi => scal1_any (hs c (List.mem_of_getElem? hi)) (hc i c hi)
  | _ => exact scal1_any hs hr
omit [Gls] in
theorem lend1_refFree (h : Hp) {x : V} (hx : x.refFree1 = true) : lend1 h x = (True, x) := by
  cases x <;> simp_all [V.refFree1, lend1, lendN]
omit [Gls] in
theorem lends1_refFree (h : Hp) : ∀ (cs : List V), cs.all V.refFree1 = true → (lends1 h cs).2 = cs
  | [], _ => rfl
  | x :: cs, hc => by
    simp only [List.all_cons, Bool.and_eq_true] at hc
    simp [lends1, lend1_refFree h hc.1, lends1_refFree h cs hc.2]
omit [Gls] in
theorem lend_refFree (h : Hp) {x : V} (hx : x.refFree = true) : (lend h x).2 = x := by
  cases x with
  | agg cs => simp only [lend, lends1_refFree h cs hx]
  | fn f cs => simp only [lend, lends1_refFree h cs hx]
  | tup cs => rfl
  | _ => simp_all [V.refFree, V.refFree1, lend, lend1, lendN]
theorem call_pure {g : FuncId} {S : PSpec} (hS : PureOK P g S) (hI : Inv F w A X h) {args : List V} {vals : Array Value} (hsz : vals.size = args.length) (hargs : ∀ (i : Nat) (c : V), args[i]? = some c → RV w A X c (vals.getD i und))
    (hshape : args.all V.argOk = true) (hc : (lends h args).1) (hsub : subs1 (lends h args).2 (S.enc (S.dec (lends h args).2))) (hpre : S.pre (S.dec (lends h args).2)) (hmode : args.all V.refFree = true ∨ (S.res (S.dec (lends h args).2)).scal = true ∨ fzCs (fzA h) args) :
    Calls P g vals w fun e w' => ∃ v, e = .returned v ∧ Later w A w' A ∧ Inv F w' A X h ∧ RV w' A X (S.res (S.dec (lends h args).2)) v := by
  obtain ⟨hl, hget⟩ := subs1_sound _ _ hsub
  rw [lends_len] at hl
  simp only [List.all_eq_true] at hshape
  by_cases hrf : args.all V.refFree = true
  · simp only [List.all_eq_true] at hrf
    refine (hS _ hpre w A vals hI.gl hI.abd (by omega) fun i c hi => ?_).mono fun e w' ⟨v, he, hb, hv⟩ => ?_
    · obtain ⟨x, hx, hs⟩ := hget i c hi
      obtain ⟨y, hy, rfl⟩ := lends_get h args i x hx
      have hm := List.mem_of_getElem? hy
      rw [lend_refFree h (hrf y hm)] at hs
      exact sub1_sound hs (.of_refFree (hargs i y hy) (hrf y hm))
    · obtain ⟨hL, hI'⟩ := hI.below hb
      exact ⟨v, he, hL, hI', .pure hv⟩
  · rcases hmode.resolve_left hrf with hsc | hz
    case inr =>
      refine (hS _ hpre w A vals hI.gl hI.abd (by omega) fun i c hi => ?_).mono fun e w' ⟨v, he, hb, hv⟩ => ?_
      · obtain ⟨x, hx, hs⟩ := hget i c hi
        obtain ⟨y, hy, rfl⟩ := lends_get h args i x hx
        have hm := List.mem_of_getElem? hy
        exact sub1_sound hs (fzA_sound hI (hargs i y hy) (lends_cond h args hc y hm) (fzCs_mem hz y hm) (hshape y hm))
      · obtain ⟨hL, hI'⟩ := hI.below hb
        exact ⟨v, he, hL, hI', .pure hv⟩
    refine (hS _ hpre w (lentA A X h) vals (fun g v hg => (hI.gl g v hg).lent) (fun b hb => hI.abd b hb.1) (by omega) fun i c hi => ?_).mono fun e w' ⟨v, he, hb, hv⟩ => ?_
    · obtain ⟨x, hx, hs⟩ := hget i c hi
      obtain ⟨y, hy, rfl⟩ := lends_get h args i x hx
      have hm := List.mem_of_getElem? hy
      exact sub1_sound hs (lend_sound hI (hargs i y hy) (lends_cond h args hc y hm) (hshape y hm))
    · obtain ⟨hL, hI'⟩ := hI.below hb
      exact ⟨v, he, hL, hI', .pure (scal_any hsc hv)⟩
theorem Inv.back (hI : Inv F w A X h) {w' : World} {A' : Nat → Prop} {X' : Refs} {h' : Hp} (hI' : Inv ⟨w, A, X, ownM X h⟩ w' A' X' h') : Later w A w' A' ∧ Xle X X' ∧ Inv F w' A' X' h' := by
  have hown : ∀ b, ownM X h b → A b ∧ (F.M b ∨ F.w0.heap.size ≤ b) := by
    rintro b (⟨s, i, B, hg, hfz, hreal, rfl⟩ | ⟨s, i, m, hg, rfl⟩)
    · rcases (hI.blk s i B hg).mem with hm | ⟨arr, cap, _, _, _, _, _, _, _, h8⟩
      · exact absurd hm.1 hreal
      · exact h8 hfz
    · exact (hI.mi.mp s i m hg).own
  refine ⟨⟨hI'.size, fun b hlt hA => ⟨hI'.same b hlt fun hM => hA (hown b hM).1, fun hh => hA (hI'.aold b hlt hh)⟩⟩, hI'.xle, { gl := hI'.gl, abd := hI'.abd, aold := ?_, akeep := ?_, os := hI'.os.trans hI.os, tape := hI'.tape.trans hI.tape, output := hI'.output.trans hI.output, size := Nat.le_trans hI.size hI'.size, same := ?_, xle := hI.xle.trans hI'.xle, nb := hI'.nb, mi := ⟨hI'.mi.mb, fun s i m hg => ?_, hI'.mi.inj⟩, blk := ?_, inj := hI'.inj }⟩
  · intro b hlt hA
    have h1 := hI.size
    exact hI.aold b hlt (hI'.aold b (by show b < w.heap.size; omega) hA)
  · intro b hlt hA0 hM
    have h1 := hI.size
    exact hI'.akeep b (by show b < w.heap.size; omega) (hI.akeep b hlt hA0 hM) fun hh => by rcases (hown b hh).2 with h2 | h2; exact hM h2; omega
  · intro b hlt hM
    have h1 := hI.size
    rw [hI'.same b (by show b < w.heap.size; omega) fun hh => by rcases (hown b hh).2 with h2 | h2; exact hM h2; omega]
    exact hI.same b hlt hM
  · have k := hI'.mi.mp s i m hg
    refine ⟨k.hK, k.ob, k.own.1, ?_⟩
    rcases k.own.2 with h9 | h9
    · exact (hown _ h9).2
    · right; have := hI.size; have h9' : w.heap.size ≤ X'.M s i := h9; omega
  · intro s i B hB
    have ho := hI'.blk s i B hB
    refine { hN := ho.hN, hz := ho.hz, hlen := ho.hlen, rows := ho.rows, mem := ?_ }
    rcases ho.mem with hm | ⟨arr, cap, h1, h2, h3, h4, h5, h6, h7, h8⟩
    · exact .inl hm
    · refine .inr ⟨arr, cap, h1, h2, h3, h4, h5, h6, h7, fun hf => ⟨(h8 hf).1, ?_⟩⟩
      rcases (h8 hf).2 with h9 | h9
      · exact (hown _ h9).2
      · right; have := hI.size; have h9' : w.heap.size ≤ (X'.D s i).b := h9; omega
end
section freeze
variable {F : Fr} {w : World} {A : Nat → Prop} {X : Refs} {h : Hp}
theorem Inv.freezeT (hI : Inv F w A X h) (T : Nat → Nat → Bool) {h' : Hp} (hps : ∀ s, (h' s).mps = (h s).mps) (hg : ∀ s i, hget h' s i = (hget h s i).map fun B => if T s i then { B with fz := true } else B) (hn : ∀ s, hnext h' s = hnext h s) : ∃ A', Later w A w A' ∧ Inv F w A' X h' := by
  let A' : Nat → Prop := fun b => A b ∧ ¬ ∃ s i B, hget h s i = some B ∧ T s i = true ∧ (X.D s i).real ∧ (X.D s i).b = b
  have hL : Later w A w A' := ⟨Nat.le_refl _, fun b _ hA => ⟨rfl, fun hh => hA hh.1⟩⟩
  have get : ∀ {s i B'}, hget h' s i = some B' → ∃ B, hget h s i = some B ∧ B' = if T s i then { B with fz := true } else B := by
    intro s i B' hB'
    rw [hg] at hB'
    cases hB : hget h s i with
    | none => rw [hB] at hB'; cases hB'
    | some B => rw [hB] at hB'; exact ⟨B, rfl, (Option.some.inj hB').symm⟩
  refine ⟨A', hL, { gl := hI.gl.mono hL, abd := fun b hA => hI.abd b hA.1, aold := fun b hlt hA => hI.aold b hlt hA.1, akeep := ?_, os := hI.os, tape := hI.tape, output := hI.output, size := hI.size, same := hI.same, xle := hI.xle, nb := fun s' => by rw [hn]; exact hI.nb s', mi := hI.mi.step hps rfl rfl (fun _ _ _ h => h) (fun b es clk hm hA => ⟨hA, by
    rintro ⟨s, i, B, hB, _, hr, rfl⟩
    exact (hI.blk s i B hB).noMap hr hm⟩), blk := ?_, inj := ?_ }⟩
  · intro b hlt hA0 hM
    have hAb := hI.akeep b hlt hA0 hM
    refine ⟨hAb, ?_⟩
    rintro ⟨s, i, B, hB, hT, hreal, rfl⟩
    rcases (hI.blk s i B hB).mem with ⟨k1, _⟩ | ⟨arr, cap, m1, m2, m3, m4, m5, m6, m7, m8⟩
    · exact hreal k1
    · cases hfz : B.fz with
      | true => exact m7 hfz hAb
      | false => rcases (m8 hfz).2 with h | h
                 · exact hM h
                 · omega
  · intro s i B' hB'
    obtain ⟨B, hB, rfl⟩ := get hB'
    have ho := hI.blk s i B hB
    have e1 : (if T s i then { B with fz := true } else B).z = B.z := by split <;> rfl
    have e2 : (if T s i then { B with fz := true } else B).els = B.els := by split <;> rfl
    have e3 : (if T s i then { B with fz := true } else B).ty = B.ty := by split <;> rfl
    have e4 : (if T s i then { B with fz := true } else B).cl = B.cl := by split <;> rfl
    refine { hN := ho.hN, hz := by rw [e1]; exact ho.hz, hlen := by rw [e2]; exact ho.hlen, rows := by rw [e1, e2]; exact ho.rows, mem := ?_ }
    rw [e1, e2, e3, e4]
    rcases ho.mem with hm | ⟨arr, cap, k1, k2, k3, k4, k5, k6, k7, k8⟩
    · exact .inl hm
    · have hr : (X.D s i).real := by unfold Hd.real; rw [k2]; simp
      refine .inr ⟨arr, cap, k1, k2, k3, k4, k5, ?_, ?_, ?_⟩
      · intro e j row c he hj
        obtain ⟨u, g1, g2, g3, g4⟩ := k6 e j row c he hj
        exact ⟨u, g1, g2, g3.mono hL (Xle.refl X), fun hcl => (g4 hcl).mono hL⟩
      · intro hf hh
        cases hT : T s i with
        | true => exact hh.2 ⟨s, i, B, hB, hT, hr, rfl⟩
        | false => rw [hT] at hf; exact k7 hf hh.1
      · intro hf
        cases hT : T s i with
        | true => rw [hT] at hf; cases hf
        | false =>
          rw [hT] at hf
          refine ⟨⟨(k8 hf).1, ?_⟩, (k8 hf).2⟩
          rintro ⟨s1, i1, B1, hB1, hT1, hr1, hb1⟩
          obtain ⟨rfl, rfl⟩ := hI.inj s1 i1 B1 s i B hB1 hB hr1 hr hb1
          rw [hT] at hT1; cases hT1
  · intro s1 i1 B1 s2 i2 B2 h1 h2 hr1 hr2 hbb
    obtain ⟨C1, c1, _⟩ := get h1
    obtain ⟨C2, c2, _⟩ := get h2
    exact hI.inj s1 i1 C1 s2 i2 C2 c1 c2 hr1 hr2 hbb
theorem Inv.freeze (hI : Inv F w A X h) {s i : Nat} {B : Blk} (hB : hget h s i = some B) : ∃ A', Later w A w A' ∧ Inv F w A' X (hset h s i { B with fz := true }) := by
  refine hI.freezeT (fun s' i' => decide (s' = s ∧ i' = i)) (mps_set h s i · _) (fun s' i' => ?_) (fun s' => hnext_set ..)
  by_cases heq : s' = s ∧ i' = i
  · obtain ⟨rfl, rfl⟩ := heq
    rw [hget_set_same hB, hB]; simp
  · rw [hget_set_other h _ heq (hget_base hB)]
    cases hget h s' i' <;> simp [heq]
theorem Inv.freezeH (hI : Inv F w A X h) (s : Nat) : ∃ A', Later w A w A' ∧ Inv F w A' X (frzH h s) := by
  refine hI.freezeT (fun s' _ => decide (s' = s)) (fun s' => by unfold frzH; split <;> (first | (rename_i e; subst e; rfl) | rfl)) (fun s' i' => ?_) (fun s' => ?_)
  · unfold hget frzH
    by_cases hs : s' = s
    · subst hs
      simp only [if_true, decide_true, List.getElem?_map]
      split <;> rfl
    · simp only [hs, if_false, decide_false]
      split
      · rfl
      · simp
  · unfold hnext frzH
    by_cases hs : s' = s
    · subst hs; simp
    · simp [hs]
end freeze
theorem Inv.freezeHs {F : Fr} {w : World} {X : Refs} : ∀ (L : List Nat) {A : Nat → Prop} {h : Hp}, Inv F w A X h → ∃ A', Later w A w A' ∧ Inv F w A' X (frzHs L h)
  | [], A, h, hI => ⟨A, Later.refl w A, hI⟩
  | s :: r, A, h, hI => by
    obtain ⟨A1, h1, h2⟩ := hI.freezeH s
    obtain ⟨A2, h3, h4⟩ := Inv.freezeHs r h2
    exact ⟨A2, h1.trans h3, h4⟩
theorem Inv.preZ {F : Fr} {w : World} {X : Refs} {A : Nat → Prop} {h : Hp} (hI : Inv F w A X h) (E : Env) (d : Nat) (f : V) : ∃ A', Later w A w A' ∧ Inv F w A' X (preZ E d f h) := by
  unfold Sx.preZ
  split
  · split
    · exact Inv.freezeHs _ hI
    · exact ⟨A, Later.refl w A, hI⟩
  · exact ⟨A, Later.refl w A, hI⟩
end Go.Sx
