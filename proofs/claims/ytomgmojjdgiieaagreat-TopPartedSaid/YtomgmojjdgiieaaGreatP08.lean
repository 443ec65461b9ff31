/- The soundness of append, slicing and arithmetic. No conditions. -/
import Derived.Test.YtomgmojjdgiieaaGreatP07
import Derived.ChangeKeysEq
set_option linter.unusedSimpArgs false
set_option linter.unusedVariables false
set_option linter.unusedSectionVars false
namespace Go.Sx
open Go.RowKit
variable [Gls]
section
variable {F : Fr} {w : World} {A : Nat → Prop} {X : Refs} {h : Hp} {P : Program}
theorem Inv.promote (hI : Inv F w A X h) (key z : Nat) (ty : TypeId) :
    ∃ X', Xle X X' ∧ Inv F w A X' (hpush h key { z := z, els := [], ty := ty, cl := true }) ∧ (X'.D key (hnext h key)).v = .slice none 0 0 := by
  let X' : Refs := { M := X.M, K := X.K, D := fun s' i' => if s' = key ∧ i' = hnext h key then { b := 0, z := z, len := 0, v := .slice none 0 0 } else X.D s' i', N := fun s' => if s' = key then hnext h key + 1 else X.N s' }
  have hX : Xle X X' := by
    refine ⟨?_, .same rfl rfl⟩
    intro s' i' hi
    have := hI.nb s'
    constructor
    · simp only [X']; split
      · rename_i hs; subst hs; omega
      · exact hi
    · left; simp only [X']; rw [if_neg]; rintro ⟨rfl, rfl⟩; omega
  refine ⟨X', hX, { gl := hI.gl, abd := hI.abd, aold := hI.aold, akeep := hI.akeep, os := hI.os, tape := hI.tape, output := hI.output, size := hI.size, same := hI.same, xle := hI.xle.trans hX, nb := ?_, mi := hI.mi.step (mps_push h key · _) rfl rfl (fun _ _ _ h => h) (fun _ _ _ _ h => h), blk := ?_, inj := ?_ }, by simp [X']⟩
  · intro s'
    rw [hnext_push]
    simp only [X']
    have := hI.nb s'
    split
    · rename_i hs; subst hs; omega
    · omega
  · intro s' i' B' hB'
    by_cases hnew : s' = key ∧ i' = hnext h key
    · obtain ⟨rfl, rfl⟩ := hnew
      rw [hget_push_new] at hB'
      obtain rfl := Option.some.inj hB'
      exact { hN := by simp [X'], hz := by simp [X'], hlen := by simp [X'], rows := by simp, mem := .inl ⟨by simp [X'], rfl⟩ }
    · rw [hget_push_old h key s' i' _ (fun e hi => hnew ⟨e, hi⟩)] at hB'
      have ho := hI.blk s' i' B' hB'
      have hD : X'.D s' i' = X.D s' i' := by simp only [X']; rw [if_neg hnew]
      refine { hN := (hX.1 s' i' ho.hN).1, hz := by rw [hD]; exact ho.hz, hlen := by rw [hD]; exact ho.hlen, rows := ho.rows, mem := ?_ }
      rw [hD]
      rcases ho.mem with hm' | ⟨arr', cap', h1, h2, h3, h4, h5, h6, h7, h8⟩
      · exact .inl hm'
      · refine .inr ⟨arr', cap', h1, h2, h3, h4, h5, ?_, h7, h8⟩
        intro e j row c he hj
        obtain ⟨u, g1, g2, g3, g4⟩ := h6 e j row c he hj
        exact ⟨u, g1, g2, g3.mono (Later.refl w A) hX, g4⟩
  · intro s1 i1 B1 s2 i2 B2 hb1 hb2 hr1 hr2 heq
    have key' : ∀ s' i' B', hget (hpush h key { z := z, els := [], ty := ty, cl := true }) s' i' = some B' → (X'.D s' i').real → hget h s' i' = some B' ∧ X'.D s' i' = X.D s' i' := by
      intro s' i' B' hB' hr
      by_cases hnew : s' = key ∧ i' = hnext h key
      · obtain ⟨rfl, rfl⟩ := hnew
        exact absurd (show (X'.D s' (hnext h s')).v = .slice none 0 0 by simp [X']) hr
      · rw [hget_push_old h key s' i' _ (fun e hi => hnew ⟨e, hi⟩)] at hB'
        exact ⟨hB', by simp only [X']; rw [if_neg hnew]⟩
    obtain ⟨g1, d1⟩ := key' _ _ _ hb1 hr1
    obtain ⟨g2, d2⟩ := key' _ _ _ hb2 hr2
    rw [d1, d2] at heq
    rw [d1] at hr1; rw [d2] at hr2
    exact hI.inj s1 i1 B1 s2 i2 B2 g1 g2 hr1 hr2 heq
omit [Gls] in
theorem hset_push (h : Hp) (s : Nat) (B0 B1 : Blk) : hset (hpush h s B0) s (hnext h s) B1 = hpush h s B1 := by
  funext s'
  unfold hset hpush hnext
  by_cases hs : s' = s
  · subst hs; simp
  · simp [hs]
omit [Gls] in
theorem Src.mono {w' : World} {A' : Nat → Prop} {X' : Refs} {z : Nat} {x : Value} {els : List (List V)} {cl : Bool} {news : List Value} (hs : Src P w A X z x els cl news) (hX : Xle X X') (hw : w' = w) (hA : A' = A) : Src P w' A' X' z x els cl news := by
  subst hw hA
  refine { shape := hs.shape, run := hs.run, run' := hs.run', rows := hs.rows, len := hs.len, one := hs.one, cells := ?_ }
  intro e j row c he hj
  obtain ⟨u, g1, g3, g4⟩ := hs.cells e j row c he hj
  exact ⟨u, g1, g3.mono (Later.refl _ _) hX, g4⟩
def srcV (h : Hp) (z : Nat) (x : V) : Prop × List (List V) × Bool :=
  match x with
  | .nil => (True, [], true)
  | .sl z' els => (z' = z, els, true)
  | .bsl s' i' n' => match hget h s' i' with
    | some B => (B.z = z ∧ n' = B.els.length, B.els, B.cl)
    | none => (False, [], true)
  | .osl s' i' n' off len _ => match hget h s' i' with
    | some B => (B.z = z ∧ n' = B.els.length ∧ off + len ≤ B.els.length, (B.els.drop off).take len, B.cl)
    | none => (False, [], true)
  | _ => (False, [], true)
theorem srcV_sound (hI : Inv F w A X h) {z : Nat} (hz : 0 < z) {x : V} {u : Value} (hr : RV w A X x u) (hc : (srcV h z x).1) : ∃ news, Src P w A X z u (srcV h z x).2.1 (srcV h z x).2.2 news := by
  cases x <;> simp only [srcV] at hc ⊢
  case nil => rw [hr.nil_inv]; exact ⟨[], .empty _ _ _⟩
  case sl z' els =>
    subst hc
    have h' := hr.sl_inv
    cases h' with
    | sl0 _ a cap => exact ⟨[], .empty _ _ _⟩
    | sl _ _ b off cap us hcap hb hA hz' hcell hv =>
      exact Src.of_cells hz rfl hz' fun e j row x he hj => ⟨us e j, (hcell e j row x he hj).1, (hcell e j row x he hj).2, .pure (hv e j row x he hj), fun _ => hv e j row x he hj⟩
  case bsl s i n =>
    cases hg : hget h s i with
    | none => simp [hg] at hc
    | some B =>
      simp only [hg] at hc ⊢
      obtain ⟨rfl, hn⟩ := hc
      obtain ⟨a, c, rfl, hN, hn', hv⟩ := hr.bsl_inv
      have hb := hI.blk s i B hg
      have hv' := hv (by rw [hb.hlen]; exact hn)
      rcases hb.mem with ⟨h1, h2⟩ | ⟨arr, cap, h1, h2, h3, h4, h5, h6, _⟩
      · rw [h1] at hv'
        injection hv' with e1 e2 e3
        subst e1 e2
        rw [h2]; exact ⟨[], .empty _ _ _⟩
      · rw [h2] at hv'
        injection hv' with e1 e2 e3
        subst e1
        refine Src.of_cells hz hn.symm hb.rows fun e j row x he hj => ?_
        obtain ⟨u, g1, g2, g3, g4⟩ := h6 e j row x he hj
        exact ⟨u, by simp [World.cell?, h1, g1], g2, g3, g4⟩
  case osl s i n off len cap =>
    cases hg : hget h s i with
    | none => simp [hg] at hc
    | some B =>
      simp only [hg] at hc ⊢
      obtain ⟨rfl, hn, hl⟩ := hc
      obtain ⟨a, c', rfl, hcc, hN, hn', hv⟩ := hr.osl_inv
      have hb := hI.blk s i B hg
      have hv' := (hv (by rw [hb.hlen]; exact hn)).1
      rw [hb.hz] at hv'
      subst hv'
      refine Src.of_cells hz (by simp; omega) (fun row hr => hb.rows row (List.mem_of_mem_drop (List.mem_of_mem_take hr))) fun e j row x he hj => ?_
      have hlt : e < len := by have := (List.getElem?_eq_some_iff.1 he).1; rw [List.length_take] at this; omega
      rw [List.getElem?_take_of_lt hlt, List.getElem?_drop] at he
      rcases hb.mem with ⟨_, h2⟩ | ⟨arr, cap, h1, h2, h3, h4, h5, h6, _⟩
      · rw [h2] at he; simp at he
      · obtain ⟨u, g1, g2, g3, g4⟩ := h6 _ j row x he hj
        refine ⟨u, ?_, g2, g3, g4⟩
        rw [Nat.add_mul, ← Nat.add_assoc] at g1
        simp [World.cell?, h1, g1]
omit [Gls] in
theorem appendV_eq (E : Env) (key : Nat) (T : TypeId) (s x : V) (h : Hp) : appendV E key T s x h = (match slEl E.P T with
    | none => bad h
    | some e => match s with
      | .nil => ⟨(srcV h (E.P.cellsOf e) x).1 ∧ 0 < E.P.cellsOf e ∧ (zc E.P e).length = E.P.cellsOf e ∧ 0 < E.P.bytesOf e ∧ ((srcV h (E.P.cellsOf e) x).2.1.length) * E.P.bytesOf e ≤ 140737488355328, .bsl key (hnext h key) (srcV h (E.P.cellsOf e) x).2.1.length,
          hpush h key { z := E.P.cellsOf e, els := (srcV h (E.P.cellsOf e) x).2.1, ty := e, cl := (srcV h (E.P.cellsOf e) x).2.2 }⟩
      | .bsl s0 i0 n0 => match hget h s0 i0 with
        | none => bad h
        | some B => ⟨(srcV h (E.P.cellsOf e) x).1 ∧ 0 < E.P.cellsOf e ∧ (zc E.P e).length = E.P.cellsOf e ∧ 0 < E.P.bytesOf e ∧ B.z = E.P.cellsOf e ∧ B.ty = e ∧ B.fz = false ∧ n0 = B.els.length ∧ (B.els.length + (srcV h (E.P.cellsOf e) x).2.1.length) * E.P.bytesOf e ≤ 140737488355328,
            .bsl s0 i0 (B.els.length + (srcV h (E.P.cellsOf e) x).2.1.length), hset h s0 i0 { B with els := B.els ++ (srcV h (E.P.cellsOf e) x).2.1, cl := B.cl && (srcV h (E.P.cellsOf e) x).2.2 }⟩
      | .osl s0 i0 n0 off len cap => match hget h s0 i0 with
        | none => bad h
        | some B => ⟨(srcV h (E.P.cellsOf e) x).1 ∧ 0 < E.P.cellsOf e ∧ B.z = E.P.cellsOf e ∧ (zc E.P e).length = E.P.cellsOf e ∧ B.ty = e ∧ B.fz = false ∧ n0 = B.els.length ∧ off = 0 ∧ B.els ≠ [] ∧ len + (srcV h (E.P.cellsOf e) x).2.1.length ≤ cap ∧ cap ≤ B.els.length,
            .osl s0 i0 n0 0 (len + (srcV h (E.P.cellsOf e) x).2.1.length) cap, hset h s0 i0 { B with els := B.els.take len ++ (srcV h (E.P.cellsOf e) x).2.1 ++ B.els.drop (len + (srcV h (E.P.cellsOf e) x).2.1.length), cl := B.cl && (srcV h (E.P.cellsOf e) x).2.2 }⟩
      | .emp => if E.own.contains (key - E.key + 600000) = true then ⟨((srcV h (E.P.cellsOf e) x).1 ∧ (srcV h (E.P.cellsOf e) x).2.2 = true) ∧ 0 < E.P.cellsOf e ∧ (zc E.P e).length = E.P.cellsOf e ∧ 0 < E.P.bytesOf e ∧ ((srcV h (E.P.cellsOf e) x).2.1.length) * E.P.bytesOf e ≤ 140737488355328, .sl (E.P.cellsOf e) (srcV h (E.P.cellsOf e) x).2.1, h⟩ else if (srcV h (E.P.cellsOf e) x).2.1 = [] then ⟨(srcV h (E.P.cellsOf e) x).1 ∧ 0 < E.P.cellsOf e ∧ (zc E.P e).length = E.P.cellsOf e, .emp, h⟩ else
        ⟨(srcV h (E.P.cellsOf e) x).1 ∧ 0 < E.P.cellsOf e ∧ (zc E.P e).length = E.P.cellsOf e ∧ 0 < E.P.bytesOf e ∧ ((srcV h (E.P.cellsOf e) x).2.1.length) * E.P.bytesOf e ≤ 140737488355328, .osl key (hnext h key) (srcV h (E.P.cellsOf e) x).2.1.length 0 (srcV h (E.P.cellsOf e) x).2.1.length (srcV h (E.P.cellsOf e) x).2.1.length,
          hpush h key { z := E.P.cellsOf e, els := (srcV h (E.P.cellsOf e) x).2.1, ty := e, cl := (srcV h (E.P.cellsOf e) x).2.2 }⟩
      | _ => bad h) := by
  unfold appendV
  cases slEl E.P T with
  | none => rfl
  | some e => cases s <;> rfl
theorem appendV_sound {E : Env} {key : Nat} {T ty : TypeId} {s x : V} {us ux : Value} (hI : Inv F w A X h) (hs : RV w A X s us) (hx : RV w A X x ux) (hc : (appendV E key T s x h).c) :
    ∃ r w' A' X', (Builtin.append_ #[T, T] ty #[us, ux]).run E.P w = .ok r w' ∧ Later w A w' A' ∧ Xle X X' ∧ Inv F w' A' X' (appendV E key T s x h).h ∧ RV w' A' X' (appendV E key T s x h).v r := by
  rw [appendV_eq] at hc ⊢
  cases hsl : slEl E.P T with
  | none => simp [hsl, bad] at hc
  | some e =>
    simp only [hsl] at hc ⊢
    have hu := slEl_some hsl
    have hml : ∀ n : Nat, 0 < E.P.bytesOf e → n * E.P.bytesOf e ≤ 140737488355328 → n ≤ maxLen := by
      intro n hb hn
      have := Nat.le_mul_of_pos_right n hb
      simp only [maxLen]; omega
    cases s <;> simp only [bad] at hc ⊢
    case nil =>
      obtain ⟨c1, c2, c3, c4, c5⟩ := hc
      obtain ⟨news, hsrc⟩ := srcV_sound (P := E.P) hI c2 hx c1
      obtain ⟨i, zv, hi, hsz, hz, hzc, hzs⟩ := zc_some c2 c3
      have hby : E.P.bytesOf e = i.bytes := by simp [Program.bytesOf, hi]
      obtain ⟨X1, hX1, hI1, hv1⟩ := hI.promote key (E.P.cellsOf e) e
      have hap := hI1.append E.P (T := T) (ty := ty) (e := e) (ti := i) (zv := zv) (hget_push_new h key _) rfl hu hi hz rfl hsz c2 hzs (hsrc.mono hX1 rfl rfl) (by rw [hby] at c5; simpa using c5) (by simpa using hml _ c4 c5)
      obtain ⟨v', w', A', X', g1, g2, g3, g4, g5⟩ := hap
      rw [hv1] at g1
      rw [hs.nil_inv]
      rw [hset_push] at g4
      refine ⟨v', w', A', X', g1, g2, hX1.trans g3, ?_, ?_⟩
      · simpa using g4
      · simpa using g5
    case bsl s0 i0 n0 =>
      cases hg : hget h s0 i0 with
      | none => simp [hg] at hc
      | some B =>
        simp only [hg] at hc ⊢
        obtain ⟨c1, c2, c3, c4, c5, c6, c7, c8, c9⟩ := hc
        obtain ⟨news, hsrc⟩ := srcV_sound (P := E.P) hI c2 hx c1
        obtain ⟨i, zv, hi, hsz, hz, hzc, hzs⟩ := zc_some c2 c3
        have hby : E.P.bytesOf e = i.bytes := by simp [Program.bytesOf, hi]
        rw [← c5] at hsrc hsz hzs
        have hap := hI.append E.P (T := T) (ty := ty) (e := e) (ti := i) (zv := zv) hg c7 hu hi hz c6 hsz (by rw [c5]; exact c2) hzs hsrc (by rw [hby, ← c5] at c9; exact c9) (by rw [c5]; exact hml _ c4 c9)
        obtain ⟨v', w', A', X', g1, g2, g3, g4, g5⟩ := hap
        obtain ⟨a, c, rfl, hN, hn', hv⟩ := hs.bsl_inv
        have hb := hI.blk s0 i0 B hg
        rw [hv (by rw [hb.hlen]; exact c8)]
        rw [← c5]
        exact ⟨v', w', A', X', g1, g2, g3, g4, g5⟩
    case osl s0 i0 n0 off len cap =>
      cases hg : hget h s0 i0 with
      | none => simp [hg] at hc
      | some B =>
        simp only [hg] at hc ⊢
        obtain ⟨c1, c2, c3, c4, c5, c6, c7, c8, c9, c10, c11⟩ := hc
        obtain ⟨news, hsrc⟩ := srcV_sound (P := E.P) hI c2 hx c1
        obtain ⟨i, zv, hi, hsz, hz, hzc, hzs⟩ := zc_some c2 c4
        rw [← c3] at hsrc hsz
        obtain ⟨a, c', rfl, hcc, hN, hn', hv⟩ := hs.osl_inv
        have hb := hI.blk s0 i0 B hg
        subst c8
        obtain ⟨w', g1, g2, g3⟩ := hI.appendIn E.P (T := T) (ty := ty) (e := e) (ti := i) hg c6 hu hi c5 hsz hsrc hcc c9 (by rw [c3]; exact c10) c11
        obtain ⟨hv1, hv2⟩ := hv (by rw [hb.hlen]; exact c7)
        rw [hv1, Nat.zero_mul, Nat.add_zero]
        rw [← c3]
        exact ⟨_, w', A, X, g1, g2, Xle.refl X, g3, .osl s0 i0 n0 0 _ cap _ _ hcc hN hn' (fun hh => ⟨by rw [Nat.zero_mul, Nat.add_zero], hv2⟩)⟩
    case emp =>
      obtain ⟨a, rfl⟩ := hs.emp_inv
      by_cases hov : E.own.contains (key - E.key + 600000) = true
      · rw [if_pos hov] at hc
        rw [if_pos hov]
        obtain ⟨⟨c1, c0⟩, c2, c3, c4, c5⟩ := hc
        obtain ⟨news, hsrc⟩ := srcV_sound (P := E.P) hI c2 hx c1
        obtain ⟨i, zv, hi, hsz, hz, hzc, hzs⟩ := zc_some c2 c3
        have hby : E.P.bytesOf e = i.bytes := by simp [Program.bytesOf, hi]
        rw [hby] at c5
        have hm := hml _ c4 (by rw [hby]; exact c5)
        generalize hels : (srcV h (E.P.cellsOf e) x).2.1 = els at *
        generalize hcl : (srcV h (E.P.cellsOf e) x).2.2 = cl at *
        have hsrc' := hsrc
        rw [← hsz] at hsrc'
        by_cases he : els = []
        · subst he
          exact ⟨_, w, A, X, run_append_src_emp0 E.P T ty e i hu hi a hsrc' rfl, Later.refl w A, Xle.refl X, hI, .pure (.sl0 _ _ _)⟩
        have hl0 : 0 < els.length := List.length_pos_iff.2 he
        have hr := run_append_src_grow E.P T ty e i zv hu hi hz a 0 0 [] (by simp) (by simp) hsrc' (by omega) (by simp only [maxLen] at hm; omega) (growslice_fits (by omega) (by rw [Nat.zero_add]; exact c5))
        simp only [Nat.zero_add] at hr
        have hge := grownCap_ge w els.length 0 e
        obtain ⟨hLd, hId⟩ := hI.drew
        generalize harr : ([] : List Value).toArray ++ news.toArray ++ Builtin.zeroCells zv.cells (grownCap w els.length 0 e - els.length) = arr at hr
        obtain ⟨hL, hI'⟩ := hId.ext (.cells arr e)
        have hnA : ¬ A w.drew.heap.size := fun hA => by have := hId.abd _ hA; omega
        have hcell : ∀ e1 j row c, els[e1]? = some row → row[j]? = some c → ∃ u, arr[e1 * E.P.cellsOf e + j]? = some u ∧ u.oneCell' = true ∧ PV (w.drew.alloc (.cells arr e)) A c u := fun e1 j row c he1 hj => by
          obtain ⟨u, k1, k3, k4⟩ := hsrc.cells e1 j row c he1 hj
          have hlt : e1 * E.P.cellsOf e + j < news.length := (List.getElem?_eq_some_iff.1 k1).1
          refine ⟨u, ?_, hsrc.one u (List.mem_of_getElem? k1), (k4 c0).mono (hLd.trans hL)⟩
          rw [← harr, ← Array.getElem?_toList]
          simp only [Array.toList_append, List.nil_append]
          rw [List.getElem?_append_left (by simpa using hlt)]
          exact k1
        refine ⟨_, _, A, X, hr, hLd.trans hL, Xle.refl X, hI', .pure ?_⟩
        have := PV.sl (w := w.drew.alloc (.cells arr e)) (A := A) (E.P.cellsOf e) els w.drew.heap.size 0 (grownCap w els.length 0 e) (fun e1 j => (arr[e1 * E.P.cellsOf e + j]?).getD und) hge (by simp) hnA hsrc.rows
          (fun e1 j row c he1 hj => by
            obtain ⟨u, k1, k2, _⟩ := hcell e1 j row c he1 hj
            rw [Nat.zero_add, World.cell?_alloc_new, k1]; exact ⟨rfl, k2⟩)
          (fun e1 j row c he1 hj => by
            obtain ⟨u, k1, _, k3⟩ := hcell e1 j row c he1 hj
            simp only [k1, Option.getD_some]; exact k3)
        exact this
      rw [if_neg hov] at hc
      rw [if_neg hov]
      by_cases he : (srcV h (E.P.cellsOf e) x).2.1 = []
      · rw [if_pos he] at hc
        rw [if_pos he]
        obtain ⟨c1, c2, c3⟩ := hc
        obtain ⟨news, hsrc⟩ := srcV_sound (P := E.P) hI c2 hx c1
        obtain ⟨i, zv, hi, hsz, hz, hzc, hzs⟩ := zc_some c2 c3
        rw [he] at hsrc
        rw [← hsz] at hsrc
        exact ⟨_, w, A, X, run_append_src_emp0 E.P T ty e i hu hi a hsrc rfl, Later.refl w A, Xle.refl X, hI, .pure (.emp a)⟩
      · rw [if_neg he] at hc
        rw [if_neg he]
        obtain ⟨c1, c2, c3, c4, c5⟩ := hc
        obtain ⟨news, hsrc⟩ := srcV_sound (P := E.P) hI c2 hx c1
        obtain ⟨i, zv, hi, hsz, hz, hzc, hzs⟩ := zc_some c2 c3
        have hby : E.P.bytesOf e = i.bytes := by simp [Program.bytesOf, hi]
        rw [hby] at c5
        have hm := hml _ c4 (by rw [hby]; exact c5)
        generalize hels : (srcV h (E.P.cellsOf e) x).2.1 = els at *
        generalize hcl : (srcV h (E.P.cellsOf e) x).2.2 = cl at *
        have hl0 : 0 < els.length := List.length_pos_iff.2 he
        have hsrc' := hsrc
        rw [← hsz] at hsrc'
        have hr := run_append_src_grow E.P T ty e i zv hu hi hz a 0 0 [] (by simp) (by simp) hsrc' (by omega) (by simp only [maxLen] at hm; omega) (growslice_fits (by omega) (by rw [Nat.zero_add]; exact c5))
        simp only [Nat.zero_add] at hr
        have hge := grownCap_ge w els.length 0 e
        have hmx := grownCap_le_maxLen w els.length 0 e hm
        obtain ⟨hLd, hId⟩ := hI.drew
        have hsz2 : (([] : List Value).toArray ++ news.toArray ++ Builtin.zeroCells zv.cells (grownCap w els.length 0 e - els.length)).size = grownCap w els.length 0 e * E.P.cellsOf e := by
          simp only [Array.size_append, List.size_toArray, size_zeroCells, hzs, hsrc.len, List.length_nil, Nat.zero_add, ← Nat.add_mul]
          congr 1; omega
        have hI' := hId.alloc key { z := E.P.cellsOf e, els := els, ty := e, cl := cl } (([] : List Value).toArray ++ news.toArray ++ Builtin.zeroCells zv.cells (grownCap w els.length 0 e - els.length)) (grownCap w els.length 0 e) rfl hge hmx hsrc.rows hsz2
          (fun e1 j row c he1 hj => by
            obtain ⟨u, k1, k3, k4⟩ := hsrc.cells e1 j row c he1 hj
            have hlt : e1 * E.P.cellsOf e + j < news.length := (List.getElem?_eq_some_iff.1 k1).1
            refine ⟨u, ?_, hsrc.one u (List.mem_of_getElem? k1), k3.mono hLd (Xle.refl X), fun hh => (k4 hh).mono hLd⟩
            rw [← Array.getElem?_toList]
            simp only [Array.toList_append, List.nil_append]
            rw [List.getElem?_append_left (by simpa using hlt)]
            exact k1)
        refine ⟨_, _, _, _, hr, hLd.trans (hId.later_alloc _), hId.xle_new key _ _, hI', ?_⟩
        exact .osl _ _ _ _ _ _ _ _ hge (by simp [refsNew]) (by simp [refsNew]) (fun _ => ⟨by simp [refsNew], by simp [refsNew, Hd.cap]⟩)
omit [Gls] in
theorem bool_und {T : TypeId} (h : isBool P T = true) : P.underlying T = some .bool := by
  unfold isBool at h; split at h <;> simp_all
omit [Gls] in
theorem ptr_und {T : TypeId} (h : isPtr P T = true) : ∃ e, P.underlying T = some (.pointer e) := by
  unfold isPtr at h; split at h <;> simp_all
omit [Gls] in
theorem fn_und {T : TypeId} (h : isFn P T = true) : ∃ a b c, P.underlying T = some (.func a b c) := by
  unfold isFn at h; split at h <;> simp_all
omit [Gls] in
theorem sl_und {T : TypeId} (h : (slEl P T).isSome = true) : ∃ e, P.underlying T = some (.slice e) := by
  cases hs : slEl P T with
  | none => simp [hs] at h
  | some e => exact ⟨e, slEl_some hs⟩
omit [Gls] in
theorem eq_fin {op : BinOp} {T : TypeId} {x y : Operand} {ua ub : Value} {r : Bool} (hE : ∀ d, (Op.equalIn (d + 1) T ua ub).run P w = .ok r w) (h1 : binOp .eql T ua ub = (do pure (.bool (← Op.equal T ua ub))))
    (h2 : binOp .neq T ua ub = (do pure (.bool (!(← Op.equal T ua ub))))) (hg : (eqGuard op T x y ua ub).run P w = .ok () w) :
    (eqGuard op T x y ua ub).run P w = .ok () w ∧ (binOp .eql T ua ub).run P w = .ok (.bool r) w ∧ (binOp .neq T ua ub).run P w = .ok (.bool (!r)) w := by
  have hE' : (Op.equal T ua ub).run P w = .ok r w := hE 9999
  refine ⟨hg, ?_, ?_⟩
  · rw [h1]; simp only [Sem.run_bind, hE', Result.andThen_ok, Sem.run_pure]
  · rw [h2]; simp only [Sem.run_bind, hE', Result.andThen_ok, Sem.run_pure]
omit [Gls] in
theorem eq_fin2 {op : BinOp} {T : TypeId} {x y : Operand} {us vs : Array Value} {r : Bool} (hE : ∀ d, (Op.equalIn (d + 2) T (.agg us) (.agg vs)).run P w = .ok r w) (hg : P.eqGuardType P.depth T = false) :
    (eqGuard op T x y (.agg us) (.agg vs)).run P w = .ok () w ∧ (binOp .eql T (.agg us) (.agg vs)).run P w = .ok (.bool r) w ∧ (binOp .neq T (.agg us) (.agg vs)).run P w = .ok (.bool (!r)) w := by
  have h := hE 9998
  refine ⟨run_eqGuard_agg w op T x y us vs hg, ?_, ?_⟩
  · rw [run_eql_struct, h]; rfl
  · rw [run_neq_struct, h]; rfl
omit [Gls] in
theorem scalT_plain {T : TypeId} (h : scalT P T = true) : P.plainKey T = true := by
  unfold scalT at h; unfold Program.plainKey
  cases hu : P.underlying T with
  | none => simp [hu] at h
  | some u => cases u <;> simp_all
omit [Gls] in
theorem eqTs_get : ∀ (ts : List TypeId) (a b : List V), (eqTs P ts a b).1 → a.length = ts.length ∧ b.length = ts.length
  | [], [], [], _ => ⟨rfl, rfl⟩
  | [], _ :: _, _, h => by simp [eqTs] at h
  | [], [], _ :: _, h => by simp [eqTs] at h
  | _ :: _, [], _, h => by simp [eqTs] at h
  | _ :: _, x :: _, [], h => by cases x <;> simp [eqTs] at h
  | _ :: ts, x :: a, y :: b, h => by
    cases x <;> cases y <;> first | (simp [eqTs] at h; done) | (simp only [eqTs] at h; have := eqTs_get ts a b h.2; simp [this])
omit [Gls] in
theorem eqOne {t : TypeId} {x y : V} {u v : Value} {ts : List TypeId} {a b : List V} (hx : RV w A X x u) (hy : RV w A X y v) (h : (eqTs P (t :: ts) (x :: a) (y :: b)).1) :
    ∃ r, (∀ d, (Op.equalIn (d + 1) t u v).run P w = .ok r w) ∧ (eqTs P (t :: ts) (x :: a) (y :: b)).2 = (r && (eqTs P ts a b).2) ∧ (eqTs P ts a b).1 := by
  cases x <;> cases y <;> simp only [eqTs] at h ⊢ <;> try (exact h.elim)
  · obtain ⟨⟨h1, rfl⟩, h2⟩ := h
    rw [hx.int_inv, hy.int_inv]
    obtain ⟨k', hk⟩ : ∃ k', P.underlying t = some (.int k') := by
      unfold intK at h1
      split at h1
      · rename_i k' hk; exact ⟨k', hk⟩
      · simp at h1
    exact ⟨_, fun d => run_equalIn_int w d t _ _ _ _ hk, rfl, h2⟩
  · obtain ⟨h1, h2⟩ := h
    rw [hx.bool_inv, hy.bool_inv]
    exact ⟨_, fun d => run_equalIn_bool w d t _ _ (bool_und h1), rfl, h2⟩
omit [Gls] in
theorem eqItems_sound {e : TypeId} (he : P.plainKey e = true) {us vs : Array Value} (d : Nat) : ∀ (n o : Nat) (a b : List V), (eqTs P (List.replicate n e) a b).1 → (∀ i c, a[i]? = some c → ∃ u, us[o + i]? = some u ∧ RV w A X c u) → (∀ i c, b[i]? = some c → ∃ u, vs[o + i]? = some u ∧ RV w A X c u) →
    (Op.eqItems (d + 1) e 1 us vs (List.range' o n)).run P w = .ok (eqTs P (List.replicate n e) a b).2 w
  | 0, o, a, b, h, _, _ => by
    have := eqTs_get _ _ _ h
    have e1 : a = [] := List.eq_nil_of_length_eq_zero (by simpa using this.1)
    have e2 : b = [] := List.eq_nil_of_length_eq_zero (by simpa using this.2)
    subst e1 e2
    simp [Op.eqItems, eqTs]
  | n + 1, o, a, b, h, ha, hb => by
    have := eqTs_get _ _ _ h
    cases a with
    | nil => simp at this
    | cons x a =>
      cases b with
      | nil => simp at this
      | cons y b =>
        rw [List.replicate_succ] at h ⊢
        obtain ⟨u, hu, hru⟩ := ha 0 x rfl
        obtain ⟨v, hv, hrv⟩ := hb 0 y rfl
        obtain ⟨r, h1, h2, h3⟩ := eqOne hru hrv h
        rw [Nat.add_zero] at hu hv
        rw [h2, List.range'_succ, Op.eqItems]
        have ih := eqItems_sound he d n (o + 1) a b h3 (fun i c hc => by have := ha (i + 1) c (by simpa using hc); rwa [show o + (i + 1) = o + 1 + i by omega] at this) (fun i c hc => by have := hb (i + 1) c (by simpa using hc); rwa [show o + (i + 1) = o + 1 + i by omega] at this)
        simp only [Nat.mul_one, Sem.run_bind, run_part_plain w he hu, run_part_plain w he hv, Result.andThen_ok, h1 d]
        cases r
        · simp
        · simpa using ih
omit [Gls] in
theorem eqFields_sound {us vs : Array Value} (d : Nat) : ∀ (fs : List Field) (o : Nat) (a b : List V), (fs.all fun f => f.name != "_" && scalT P f.type) = true → fs.map (·.offset) = List.range' o fs.length → (eqTs P (fs.map (·.type)) a b).1 → (∀ i c, a[i]? = some c → ∃ u, us[o + i]? = some u ∧ RV w A X c u) → (∀ i c, b[i]? = some c → ∃ u, vs[o + i]? = some u ∧ RV w A X c u) →
    (Op.eqFields (d + 1) us vs fs).run P w = .ok (eqTs P (fs.map (·.type)) a b).2 w
  | [], o, a, b, _, _, h, _, _ => by
    have := eqTs_get _ _ _ h
    have e1 : a = [] := List.eq_nil_of_length_eq_zero (by simpa using this.1)
    have e2 : b = [] := List.eq_nil_of_length_eq_zero (by simpa using this.2)
    subst e1 e2
    simp [Op.eqFields, eqTs]
  | f :: fs, o, a, b, hall, ho, h, ha, hb => by
    have := eqTs_get _ _ _ h
    cases a with
    | nil => simp at this
    | cons x a =>
      cases b with
      | nil => simp at this
      | cons y b =>
        simp only [List.all_cons, Bool.and_eq_true] at hall
        rw [List.map_cons, List.length_cons, List.range'_succ, List.cons.injEq] at ho
        rw [List.map_cons] at h ⊢
        obtain ⟨u, hu, hru⟩ := ha 0 x rfl
        obtain ⟨v, hv, hrv⟩ := hb 0 y rfl
        obtain ⟨r, h1, h2, h3⟩ := eqOne hru hrv h
        have hn : f.name ≠ "_" := by have := hall.1.1; simpa using this
        have he := scalT_plain hall.1.2
        rw [Nat.add_zero, ← ho.1] at hu hv
        rw [h2, Op.eqFields, if_pos hn]
        have ih := eqFields_sound d fs (o + 1) a b hall.2 ho.2 h3 (fun i c hc => by have := ha (i + 1) c (by simpa using hc); rwa [show o + (i + 1) = o + 1 + i by omega] at this) (fun i c hc => by have := hb (i + 1) c (by simpa using hc); rwa [show o + (i + 1) = o + 1 + i by omega] at this)
        simp only [Sem.run_bind, run_part_plain w he hu, run_part_plain w he hv, Result.andThen_ok, h1 d]
        cases r
        · simp
        · simpa using ih
omit [Gls] in
theorem eqAgg_sound {op : BinOp} {T : TypeId} {x y : Operand} {a b : List V} {ua ub : Value} (ha : RV w A X (.agg a) ua) (hb : RV w A X (.agg b) ub) (hf : flatEq P T = true) (hc : (eqTs P (leafTs P T) a b).1) :
    (eqGuard op T x y ua ub).run P w = .ok () w ∧ (binOp .eql T ua ub).run P w = .ok (.bool (eqTs P (leafTs P T) a b).2) w ∧ (binOp .neq T ua ub).run P w = .ok (.bool (!(eqTs P (leafTs P T) a b).2)) w := by
  obtain ⟨us, rfl, hl1, h1⟩ := ha.agg_inv
  obtain ⟨vs, rfl, hl2, h2⟩ := hb.agg_inv
  have g1 : ∀ i c, a[i]? = some c → ∃ u, us[0 + i]? = some u ∧ RV w A X c u := by
    intro i c hi
    have hlt : i < us.size := by rw [hl1]; exact (List.getElem?_eq_some_iff.1 hi).1
    refine ⟨us[i], by rw [Nat.zero_add]; exact Array.getElem?_eq_getElem hlt, ?_⟩
    have := h1 i c hi
    simpa [Array.getD_eq_getD_getElem?, Array.getElem?_eq_getElem hlt] using this
  have g2 : ∀ i c, b[i]? = some c → ∃ u, vs[0 + i]? = some u ∧ RV w A X c u := by
    intro i c hi
    have hlt : i < vs.size := by rw [hl2]; exact (List.getElem?_eq_some_iff.1 hi).1
    refine ⟨vs[i], by rw [Nat.zero_add]; exact Array.getElem?_eq_getElem hlt, ?_⟩
    have := h2 i c hi
    simpa [Array.getD_eq_getD_getElem?, Array.getElem?_eq_getElem hlt] using this
  unfold flatEq at hf
  unfold leafTs at hc ⊢
  cases hu : P.underlying T with
  | none => simp [hu] at hf
  | some u =>
    rw [hu] at hf hc
    cases u <;> simp only at hf hc ⊢ <;> try (cases hf; done)
    case array n e =>
      simp only [Bool.and_eq_true, beq_iff_eq, Bool.not_eq_true'] at hf
      obtain ⟨⟨⟨f1, f2⟩, f3⟩, f4⟩ := hf
      obtain ⟨i, hi⟩ := Option.isSome_iff_exists.1 f3
      refine eq_fin2 (fun d => ?_) f4
      rw [run_equalIn_array w (d + 1) us vs hu hi, f2, List.range_eq_range']
      exact eqItems_sound (scalT_plain f1) d n 0 a b hc g1 g2
    case struct fs =>
      simp only [Bool.and_eq_true, beq_iff_eq, Bool.not_eq_true'] at hf
      obtain ⟨⟨⟨f1, f2⟩, f3⟩, f4⟩ := hf
      have hfs : P.fieldsOf T = fs := by simp [Program.fieldsOf, hu]
      refine eq_fin2 (fun d => ?_) f3
      rw [run_equalIn_struct w (d + 1) T us vs (by rw [hfs]; exact hu) f2, hfs]
      exact eqFields_sound d fs.toList 0 a b f1 (by rw [f4, List.range_eq_range']; simp) hc g1 g2
omit [Gls] in
theorem eqV_sound {op : BinOp} {T : TypeId} {x y : Operand} {a b : V} {ua ub : Value} (ha : RV w A X a ua) (hb : RV w A X b ub) (hc : (eqV P T a b).1) :
    (eqGuard op T x y ua ub).run P w = .ok () w ∧ (binOp .eql T ua ub).run P w = .ok (.bool (eqV P T a b).2) w ∧ (binOp .neq T ua ub).run P w = .ok (.bool (!(eqV P T a b).2)) w := by
  unfold eqV at hc ⊢
  split at hc
  · exact eqAgg_sound ha hb hc.1 hc.2
  · rw [ha.bool_inv, hb.bool_inv]
    have hu := bool_und hc
    exact eq_fin (fun d => by simp [Op.equalIn, run_underlying hu]) rfl rfl (by cases op <;> rfl)
  · rw [ha.nilp_inv, hb.nilp_inv]
    obtain ⟨e, hu⟩ := ptr_und hc
    exact eq_fin (fun d => by simp [Op.equalIn, run_underlying hu]) rfl rfl (by cases op <;> rfl)
  · obtain ⟨p, rfl, _⟩ := hb.bptr_inv
    rw [ha.nilp_inv]
    obtain ⟨e, hu⟩ := ptr_und hc
    exact eq_fin (fun d => by simp [Op.equalIn, run_underlying hu]) rfl rfl (by cases op <;> rfl)
  · obtain ⟨p, rfl, _⟩ := ha.bptr_inv
    rw [hb.nilp_inv]
    obtain ⟨e, hu⟩ := ptr_und hc
    exact eq_fin (fun d => by simp [Op.equalIn, run_underlying hu]) rfl rfl (by cases op <;> rfl)
  · have h' := hb.ip_inv
    rw [ha.nilp_inv]
    obtain ⟨e, hu⟩ := ptr_und hc
    cases h'
    exact eq_fin (fun d => by simp [Op.equalIn, run_underlying hu]) rfl rfl (by cases op <;> rfl)
  · have h' := ha.ip_inv
    rw [hb.nilp_inv]
    obtain ⟨e, hu⟩ := ptr_und hc
    cases h'
    exact eq_fin (fun d => by simp [Op.equalIn, run_underlying hu]) rfl rfl (by cases op <;> rfl)
  · rw [ha.nil_inv, hb.nil_inv]
    obtain ⟨e, hu⟩ := sl_und hc
    exact eq_fin (fun d => by simp [Op.equalIn, run_underlying hu]) rfl rfl (by cases op <;> rfl)
  · rw [hb.nil_inv]
    obtain ⟨e, hu⟩ := sl_und hc.1
    have h' := ha.sl_inv
    cases h' with
    | sl0 => exact absurd rfl hc.2
    | sl => exact eq_fin (fun d => by simp [Op.equalIn, run_underlying hu]) rfl rfl (by cases op <;> rfl)
  · rw [ha.nil_inv]
    obtain ⟨e, hu⟩ := sl_und hc.1
    have h' := hb.sl_inv
    cases h' with
    | sl0 => exact absurd rfl hc.2
    | sl => exact eq_fin (fun d => by simp [Op.equalIn, run_underlying hu]) rfl rfl (by cases op <;> rfl)
  · obtain ⟨p, c', rfl, _⟩ := ha.osl_inv
    rw [hb.nil_inv]
    obtain ⟨e, hu⟩ := sl_und hc
    exact eq_fin (fun d => by simp [Op.equalIn, run_underlying hu]) rfl rfl (by cases op <;> rfl)
  · obtain ⟨p, c', rfl, _⟩ := hb.osl_inv
    rw [ha.nil_inv]
    obtain ⟨e, hu⟩ := sl_und hc
    exact eq_fin (fun d => by simp [Op.equalIn, run_underlying hu]) rfl rfl (by cases op <;> rfl)
  · obtain ⟨p, rfl⟩ := ha.emp_inv
    rw [hb.nil_inv]
    obtain ⟨e, hu⟩ := sl_und hc
    exact eq_fin (fun d => by simp [Op.equalIn, run_underlying hu]) rfl rfl (by cases op <;> rfl)
  · obtain ⟨p, rfl⟩ := hb.emp_inv
    rw [ha.nil_inv]
    obtain ⟨e, hu⟩ := sl_und hc
    exact eq_fin (fun d => by simp [Op.equalIn, run_underlying hu]) rfl rfl (by cases op <;> rfl)
  · rw [ha.nilf_inv, hb.nilf_inv]
    obtain ⟨p, q, r, hu⟩ := fn_und hc
    exact eq_fin (fun d => by simp [Op.equalIn, run_underlying hu]) rfl rfl (by cases op <;> rfl)
  · obtain ⟨us, rfl, _⟩ := hb.fn_inv
    rw [ha.nilf_inv]
    obtain ⟨p, q, r, hu⟩ := fn_und hc
    exact eq_fin (fun d => by simp [Op.equalIn, run_underlying hu]) rfl rfl (by cases op <;> rfl)
  · obtain ⟨us, rfl, _⟩ := ha.fn_inv
    rw [hb.nilf_inv]
    obtain ⟨p, q, r, hu⟩ := fn_und hc
    exact eq_fin (fun d => by simp [Op.equalIn, run_underlying hu]) rfl rfl (by cases op <;> rfl)
  · exact hc.elim
omit [Gls] in
theorem unk_sound {op : BinOp} {T : TypeId} {x y : Operand} {a b : V} {ua ub : Value} (ha : RV w A X a ua) (hb : RV w A X b ub) (hu : unkE a b = true) (hc : (slEl P T).isSome = true) :
    (∃ r : Bool, (binOp .eql T ua ub).run P w = .ok (.bool r) w ∧ (binOp .neq T ua ub).run P w = .ok (.bool (!r)) w) ∧ (eqGuard op T x y ua ub).run P w = .ok () w := by
  obtain ⟨e, hT⟩ := sl_und hc
  have one : ∀ (a : Option Addr) (n c : Nat), (∃ r : Bool, (binOp .eql T (.slice a n c) (.slice none 0 0)).run P w = .ok (.bool r) w ∧ (binOp .neq T (.slice a n c) (.slice none 0 0)).run P w = .ok (.bool (!r)) w) ∧ (eqGuard op T x y (.slice a n c) (.slice none 0 0)).run P w = .ok () w := by
    intro a n c
    cases a with
    | none =>
      have h : ((eqGuard op T x y (.slice none n c) (.slice none 0 0)).run P w = .ok () w) ∧ (binOp .eql T (.slice none n c) (.slice none 0 0)).run P w = .ok (.bool true) w ∧ (binOp .neq T (.slice none n c) (.slice none 0 0)).run P w = .ok (.bool (!true)) w :=
        eq_fin (fun d => by simp [Op.equalIn, run_underlying hT]) rfl rfl (by cases op <;> rfl)
      exact ⟨⟨_, h.2⟩, h.1⟩
    | some a =>
      have h : ((eqGuard op T x y (.slice (some a) n c) (.slice none 0 0)).run P w = .ok () w) ∧ (binOp .eql T (.slice (some a) n c) (.slice none 0 0)).run P w = .ok (.bool false) w ∧ (binOp .neq T (.slice (some a) n c) (.slice none 0 0)).run P w = .ok (.bool (!false)) w :=
        eq_fin (fun d => by simp [Op.equalIn, run_underlying hT]) rfl rfl (by cases op <;> rfl)
      exact ⟨⟨_, h.2⟩, h.1⟩
  have two : ∀ (a : Option Addr) (n c : Nat), (∃ r : Bool, (binOp .eql T (.slice none 0 0) (.slice a n c)).run P w = .ok (.bool r) w ∧ (binOp .neq T (.slice none 0 0) (.slice a n c)).run P w = .ok (.bool (!r)) w) ∧ (eqGuard op T x y (.slice none 0 0) (.slice a n c)).run P w = .ok () w := by
    intro a n c
    cases a with
    | none =>
      have h : ((eqGuard op T x y (.slice none 0 0) (.slice none n c)).run P w = .ok () w) ∧ (binOp .eql T (.slice none 0 0) (.slice none n c)).run P w = .ok (.bool true) w ∧ (binOp .neq T (.slice none 0 0) (.slice none n c)).run P w = .ok (.bool (!true)) w :=
        eq_fin (fun d => by simp [Op.equalIn, run_underlying hT]) rfl rfl (by cases op <;> rfl)
      exact ⟨⟨_, h.2⟩, h.1⟩
    | some a =>
      have h : ((eqGuard op T x y (.slice none 0 0) (.slice (some a) n c)).run P w = .ok () w) ∧ (binOp .eql T (.slice none 0 0) (.slice (some a) n c)).run P w = .ok (.bool false) w ∧ (binOp .neq T (.slice none 0 0) (.slice (some a) n c)).run P w = .ok (.bool (!false)) w :=
        eq_fin (fun d => by simp [Op.equalIn, run_underlying hT]) rfl rfl (by cases op <;> rfl)
      exact ⟨⟨_, h.2⟩, h.1⟩
  unfold unkE at hu
  split at hu
  · rw [hb.nil_inv]
    have h' := ha.sl_inv
    cases h' <;> exact one _ _ _
  · rw [ha.nil_inv]
    have h' := hb.sl_inv
    cases h' <;> exact two _ _ _
  · cases hu
omit [Gls] in
theorem binV_sound {op : BinOp} {T : TypeId} {x y : Operand} {a b : V} {ua ub : Value} (ha : RV w A X a ua) (hb : RV w A X b ub) (hc : (binV P op T a b).1) :
    ∃ r, (do eqGuard op T x y ua ub; binOp op T ua ub : Sem Value).run P w = .ok r w ∧ RV w A X (binV P op T a b).2 r := by
  unfold binV at hc ⊢
  split at hc
  · rename_i k m k' n
    rw [ha.int_inv, hb.int_inv]
    have hg' : (eqGuard op T x y (.int k m) (.int k' n)).run P w = .ok () w := by cases op <;> rfl
    simp only [Sem.run_bind, hg', Result.andThen_ok]
    cases op <;> simp only at hc ⊢
    case add => subst hc; exact ⟨_, by simp [binOp, Op.intArith], .pure (.int _ _)⟩
    case sub => subst hc; exact ⟨_, by simp [binOp, Op.intArith], .pure (.int _ _)⟩
    case mul => subst hc; exact ⟨_, by simp [binOp, Op.intArith], .pure (.int _ _)⟩
    case quo => obtain ⟨rfl, hn⟩ := hc; exact ⟨_, by simp [binOp, Op.intDiv, hn], .pure (.int _ _)⟩
    case rem => obtain ⟨rfl, hn⟩ := hc; exact ⟨_, by simp [binOp, Op.intDiv, hn], .pure (.int _ _)⟩
    case shl => exact ⟨_, by simp [binOp, Op.shift, shlV, shrV, show ¬ n < 0 by omega], .pure (.int _ _)⟩
    case shr => exact ⟨_, by simp [binOp, Op.shift, shlV, shrV, show ¬ n < 0 by omega], .pure (.int _ _)⟩
    case and => subst hc; exact ⟨.int k (bitw .and k m n), by unfold binOp; simp only [ne_eq, not_true_eq_false, if_false]; rfl, .pure (.int _ _)⟩
    case or => subst hc; exact ⟨.int k (bitw .or k m n), by unfold binOp; simp only [ne_eq, not_true_eq_false, if_false]; rfl, .pure (.int _ _)⟩
    case xor => subst hc; exact ⟨.int k (bitw .xor k m n), by unfold binOp; simp only [ne_eq, not_true_eq_false, if_false]; rfl, .pure (.int _ _)⟩
    case andNot => subst hc; exact ⟨.int k (bitw .andNot k m n), by unfold binOp; simp only [ne_eq, not_true_eq_false, if_false]; rfl, .pure (.int _ _)⟩
    case eql => subst hc; exact ⟨_, by unfold binOp; simp only [ne_eq, not_true_eq_false, if_false]; rfl, .pure (.bool _)⟩
    case neq => subst hc; exact ⟨_, by unfold binOp; simp only [ne_eq, not_true_eq_false, if_false]; rfl, .pure (.bool _)⟩
    case lss => subst hc; exact ⟨_, by unfold binOp; simp only [ne_eq, not_true_eq_false, if_false]; rfl, .pure (.bool _)⟩
    case leq => subst hc; exact ⟨_, by unfold binOp; simp only [ne_eq, not_true_eq_false, if_false]; rfl, .pure (.bool _)⟩
    case gtr => subst hc; exact ⟨_, by unfold binOp; simp only [ne_eq, not_true_eq_false, if_false]; rfl, .pure (.bool _)⟩
    case geq => subst hc; exact ⟨_, by unfold binOp; simp only [ne_eq, not_true_eq_false, if_false]; rfl, .pure (.bool _)⟩
  · split at hc
    · -- eql
      by_cases hu : unkE a b = true
      · rw [if_pos hu] at hc ⊢
        obtain ⟨⟨r, hr⟩, hg⟩ := unk_sound (op := .eql) (x := x) (y := y) ha hb hu hc
        exact ⟨_, by simp only [Sem.run_bind, hg, Result.andThen_ok]; exact hr.1, .pure (.anyb r)⟩
      rw [if_neg hu] at hc ⊢
      obtain ⟨hg, he⟩ := eqV_sound (x := x) (y := y) (op := .eql) ha hb hc
      refine ⟨_, ?_, .pure (.bool _)⟩
      simp only [Sem.run_bind, hg, Result.andThen_ok]
      exact he.1
    · by_cases hu : unkE a b = true
      · rw [if_pos hu] at hc ⊢
        obtain ⟨⟨r, hr⟩, hg⟩ := unk_sound (op := .neq) (x := x) (y := y) ha hb hu hc
        exact ⟨_, by simp only [Sem.run_bind, hg, Result.andThen_ok]; exact hr.2, .pure (.anyb (!r))⟩
      rw [if_neg hu] at hc ⊢
      obtain ⟨hg, he⟩ := eqV_sound (x := x) (y := y) (op := .neq) ha hb hc
      refine ⟨_, ?_, .pure (.bool _)⟩
      simp only [Sem.run_bind, hg, Result.andThen_ok]
      exact he.2
    · exact hc.elim
end
end Go.Sx
