/- A part of a proof; no conditions. -/
import Derived.Test.YtcbcajnkdknkdaaDoorP02
import Derived.ChangeKeysEq
set_option linter.unusedSimpArgs false
set_option linter.unusedVariables false
set_option linter.unusedSectionVars false
section
/- The soundness of append, slicing and arithmetic. No conditions. -/
namespace Go.Sx
open Go.RowKit
variable [Gls]

section
variable {F : Fr} {w : World} {A : Nat → Prop} {X : Refs} {h : Hp} {P : Program}

/-- The nil slice as an owned one without elements. -/
theorem Inv.promote (hI : Inv F w A X h) (key z : Nat) (ty : TypeId) :
    ∃ X', Xle X X' ∧ Inv F w A X' (hpush h key { z := z, els := [], ty := ty, cl := true }) ∧ (X'.D key (hnext h key)).v = .slice none 0 0 := by
  let X' : Refs := { D := fun s' i' => if s' = key ∧ i' = hnext h key then { b := 0, z := z, len := 0, v := .slice none 0 0 } else X.D s' i', N := fun s' => if s' = key then hnext h key + 1 else X.N s' }
  have hX : Xle X X' := by
    intro s' i' hi
    have := hI.nb s'
    constructor
    · simp only [X']; split
      · rename_i hs; subst hs; omega
      · exact hi
    · left; simp only [X']; rw [if_neg]; rintro ⟨rfl, rfl⟩; omega
  refine ⟨X', hX, { gl := hI.gl, abd := hI.abd, aold := hI.aold, akeep := hI.akeep, os := hI.os, tape := hI.tape, output := hI.output, size := hI.size, same := hI.same, xle := hI.xle.trans hX, nb := ?_, blk := ?_, inj := ?_ }, by simp [X']⟩
  · intro s'
    rw [hnext_push]
    simp only [X']
    have := hI.nb s'
    split
    · rename_i hs; subst hs; omega
    · omega
  · intro s' i' B' hB'
    by_cases hnew : s' = key ∧ i' = hnext h key
    · obtain ⟨rfl, rfl⟩ := hnew
      rw [hget_push_new] at hB'
      obtain rfl := Option.some.inj hB'
      exact { hN := by simp [X'], hz := by simp [X'], hlen := by simp [X'], rows := by simp, mem := .inl ⟨by simp [X'], rfl⟩ }
    · rw [hget_push_old h key s' i' _ (fun e hi => hnew ⟨e, hi⟩)] at hB'
      have ho := hI.blk s' i' B' hB'
      have hD : X'.D s' i' = X.D s' i' := by simp only [X']; rw [if_neg hnew]
      refine { hN := (hX s' i' ho.hN).1, hz := by rw [hD]; exact ho.hz, hlen := by rw [hD]; exact ho.hlen, rows := ho.rows, mem := ?_ }
      rw [hD]
      rcases ho.mem with hm' | ⟨arr', cap', h1, h2, h3, h4, h5, h6, h7, h8⟩
      · exact .inl hm'
      · refine .inr ⟨arr', cap', h1, h2, h3, h4, h5, ?_, h7, h8⟩
        intro e j row c he hj
        obtain ⟨u, g1, g2, g3, g4⟩ := h6 e j row c he hj
        exact ⟨u, g1, g2, g3.mono (Later.refl w A) hX, g4⟩
  · intro s1 i1 B1 s2 i2 B2 hb1 hb2 hr1 hr2 heq
    have key' : ∀ s' i' B', hget (hpush h key { z := z, els := [], ty := ty, cl := true }) s' i' = some B' → (X'.D s' i').real → hget h s' i' = some B' ∧ X'.D s' i' = X.D s' i' := by
      intro s' i' B' hB' hr
      by_cases hnew : s' = key ∧ i' = hnext h key
      · obtain ⟨rfl, rfl⟩ := hnew
        exact absurd (show (X'.D s' (hnext h s')).v = .slice none 0 0 by simp [X']) hr
      · rw [hget_push_old h key s' i' _ (fun e hi => hnew ⟨e, hi⟩)] at hB'
        exact ⟨hB', by simp only [X']; rw [if_neg hnew]⟩
    obtain ⟨g1, d1⟩ := key' _ _ _ hb1 hr1
    obtain ⟨g2, d2⟩ := key' _ _ _ hb2 hr2
    rw [d1, d2] at heq
    rw [d1] at hr1; rw [d2] at hr2
    exact hI.inj s1 i1 B1 s2 i2 B2 g1 g2 hr1 hr2 heq

omit [Gls] in
theorem hset_push (h : Hp) (s : Nat) (B0 B1 : Blk) : hset (hpush h s B0) s (hnext h s) B1 = hpush h s B1 := by
  funext s'
  unfold hset hpush hnext
  by_cases hs : s' = s
  · subst hs; simp
  · simp [hs]

omit [Gls] in
theorem Src.mono {w' : World} {A' : Nat → Prop} {X' : Refs} {z : Nat} {x : Value} {els : List (List V)} {cl : Bool} {news : List Value} (hs : Src P w A X z x els cl news) (hX : Xle X X') (hw : w' = w) (hA : A' = A) : Src P w' A' X' z x els cl news := by
  subst hw hA
  refine { shape := hs.shape, run := hs.run, run' := hs.run', rows := hs.rows, len := hs.len, one := hs.one, cells := ?_ }
  intro e j row c he hj
  obtain ⟨u, g1, g3, g4⟩ := hs.cells e j row c he hj
  exact ⟨u, g1, g3.mono (Later.refl _ _) hX, g4⟩

/-- The elements that an append takes. -/
def srcV (h : Hp) (z : Nat) (x : V) : Prop × List (List V) × Bool :=
  match x with
  | .nil => (True, [], true)
  | .sl z' els => (z' = z, els, true)
  | .bsl s' i' n' => match hget h s' i' with
    | some B => (B.z = z ∧ n' = B.els.length, B.els, B.cl)
    | none => (False, [], true)
  | .osl s' i' n' off len _ => match hget h s' i' with
    | some B => (B.z = z ∧ n' = B.els.length ∧ off + len ≤ B.els.length, (B.els.drop off).take len, B.cl)
    | none => (False, [], true)
  | _ => (False, [], true)

theorem srcV_sound (hI : Inv F w A X h) {z : Nat} (hz : 0 < z) {x : V} {u : Value} (hr : RV w A X x u) (hc : (srcV h z x).1) : ∃ news, Src P w A X z u (srcV h z x).2.1 (srcV h z x).2.2 news := by
  cases x <;> simp only [srcV] at hc ⊢
  case nil => rw [hr.nil_inv]; exact ⟨[], .empty _ _ _⟩
  case sl z' els =>
    subst hc
    have h' := hr.sl_inv
    cases h' with
    | sl0 _ a cap => exact ⟨[], .empty _ _ _⟩
    | sl _ _ b off cap us hcap hb hA hz' hcell hv =>
      exact Src.of_cells hz rfl hz' fun e j row x he hj => ⟨us e j, (hcell e j row x he hj).1, (hcell e j row x he hj).2, .pure (hv e j row x he hj), fun _ => hv e j row x he hj⟩
  case bsl s i n =>
    cases hg : hget h s i with
    | none => simp [hg] at hc
    | some B =>
      simp only [hg] at hc ⊢
      obtain ⟨rfl, hn⟩ := hc
      obtain ⟨a, c, rfl, hN, hn', hv⟩ := hr.bsl_inv
      have hb := hI.blk s i B hg
      have hv' := hv (by rw [hb.hlen]; exact hn)
      rcases hb.mem with ⟨h1, h2⟩ | ⟨arr, cap, h1, h2, h3, h4, h5, h6, _⟩
      · rw [h1] at hv'
        injection hv' with e1 e2 e3
        subst e1 e2
        rw [h2]; exact ⟨[], .empty _ _ _⟩
      · rw [h2] at hv'
        injection hv' with e1 e2 e3
        subst e1
        refine Src.of_cells hz hn.symm hb.rows fun e j row x he hj => ?_
        obtain ⟨u, g1, g2, g3, g4⟩ := h6 e j row x he hj
        exact ⟨u, by simp [World.cell?, h1, g1], g2, g3, g4⟩
  case osl s i n off len cap =>
    cases hg : hget h s i with
    | none => simp [hg] at hc
    | some B =>
      simp only [hg] at hc ⊢
      obtain ⟨rfl, hn, hl⟩ := hc
      obtain ⟨a, c', rfl, hcc, hN, hn', hv⟩ := hr.osl_inv
      have hb := hI.blk s i B hg
      have hv' := (hv (by rw [hb.hlen]; exact hn)).1
      rw [hb.hz] at hv'
      subst hv'
      refine Src.of_cells hz (by simp; omega) (fun row hr => hb.rows row (List.mem_of_mem_drop (List.mem_of_mem_take hr))) fun e j row x he hj => ?_
      have hlt : e < len := by have := (List.getElem?_eq_some_iff.1 he).1; rw [List.length_take] at this; omega
      rw [List.getElem?_take_of_lt hlt, List.getElem?_drop] at he
      rcases hb.mem with ⟨_, h2⟩ | ⟨arr, cap, h1, h2, h3, h4, h5, h6, _⟩
      · rw [h2] at he; simp at he
      · obtain ⟨u, g1, g2, g3, g4⟩ := h6 _ j row x he hj
        refine ⟨u, ?_, g2, g3, g4⟩
        rw [Nat.add_mul, ← Nat.add_assoc] at g1
        simp [World.cell?, h1, g1]

omit [Gls] in
theorem appendV_eq (E : Env) (key : Nat) (T : TypeId) (s x : V) (h : Hp) : appendV E key T s x h = (match slEl E.P T with
    | none => bad h
    | some e => match s with
      | .nil => ⟨(srcV h (E.P.cellsOf e) x).1 ∧ 0 < E.P.cellsOf e ∧ (zc E.P e).length = E.P.cellsOf e ∧ 0 < E.P.bytesOf e ∧ ((srcV h (E.P.cellsOf e) x).2.1.length) * E.P.bytesOf e ≤ 140737488355328, .bsl key (hnext h key) (srcV h (E.P.cellsOf e) x).2.1.length,
          hpush h key { z := E.P.cellsOf e, els := (srcV h (E.P.cellsOf e) x).2.1, ty := e, cl := (srcV h (E.P.cellsOf e) x).2.2 }⟩
      | .bsl s0 i0 n0 => match hget h s0 i0 with
        | none => bad h
        | some B => ⟨(srcV h (E.P.cellsOf e) x).1 ∧ 0 < E.P.cellsOf e ∧ (zc E.P e).length = E.P.cellsOf e ∧ 0 < E.P.bytesOf e ∧ B.z = E.P.cellsOf e ∧ B.ty = e ∧ B.fz = false ∧ n0 = B.els.length ∧ (B.els.length + (srcV h (E.P.cellsOf e) x).2.1.length) * E.P.bytesOf e ≤ 140737488355328,
            .bsl s0 i0 (B.els.length + (srcV h (E.P.cellsOf e) x).2.1.length), hset h s0 i0 { B with els := B.els ++ (srcV h (E.P.cellsOf e) x).2.1, cl := B.cl && (srcV h (E.P.cellsOf e) x).2.2 }⟩
      | .osl s0 i0 n0 off len cap => match hget h s0 i0 with
        | none => bad h
        | some B => ⟨(srcV h (E.P.cellsOf e) x).1 ∧ 0 < E.P.cellsOf e ∧ B.z = E.P.cellsOf e ∧ (zc E.P e).length = E.P.cellsOf e ∧ B.ty = e ∧ B.fz = false ∧ n0 = B.els.length ∧ off = 0 ∧ B.els ≠ [] ∧ len + (srcV h (E.P.cellsOf e) x).2.1.length ≤ cap ∧ cap ≤ B.els.length,
            .osl s0 i0 n0 0 (len + (srcV h (E.P.cellsOf e) x).2.1.length) cap, hset h s0 i0 { B with els := B.els.take len ++ (srcV h (E.P.cellsOf e) x).2.1 ++ B.els.drop (len + (srcV h (E.P.cellsOf e) x).2.1.length), cl := B.cl && (srcV h (E.P.cellsOf e) x).2.2 }⟩
      | .emp => if (srcV h (E.P.cellsOf e) x).2.1 = [] then ⟨(srcV h (E.P.cellsOf e) x).1 ∧ 0 < E.P.cellsOf e ∧ (zc E.P e).length = E.P.cellsOf e, .emp, h⟩ else
        ⟨(srcV h (E.P.cellsOf e) x).1 ∧ 0 < E.P.cellsOf e ∧ (zc E.P e).length = E.P.cellsOf e ∧ 0 < E.P.bytesOf e ∧ ((srcV h (E.P.cellsOf e) x).2.1.length) * E.P.bytesOf e ≤ 140737488355328, .osl key (hnext h key) (srcV h (E.P.cellsOf e) x).2.1.length 0 (srcV h (E.P.cellsOf e) x).2.1.length (srcV h (E.P.cellsOf e) x).2.1.length,
          hpush h key { z := E.P.cellsOf e, els := (srcV h (E.P.cellsOf e) x).2.1, ty := e, cl := (srcV h (E.P.cellsOf e) x).2.2 }⟩
      | _ => bad h) := by
  unfold appendV
  cases slEl E.P T with
  | none => rfl
  | some e => cases s <;> rfl

theorem appendV_sound {E : Env} {key : Nat} {T ty : TypeId} {s x : V} {us ux : Value} (hI : Inv F w A X h) (hs : RV w A X s us) (hx : RV w A X x ux) (hc : (appendV E key T s x h).c) :
    ∃ r w' A' X', (Builtin.append_ #[T, T] ty #[us, ux]).run E.P w = .ok r w' ∧ Later w A w' A' ∧ Xle X X' ∧ Inv F w' A' X' (appendV E key T s x h).h ∧ RV w' A' X' (appendV E key T s x h).v r := by
  rw [appendV_eq] at hc ⊢
  cases hsl : slEl E.P T with
  | none => simp [hsl, bad] at hc
  | some e =>
    simp only [hsl] at hc ⊢
    have hu := slEl_some hsl
    have hml : ∀ n : Nat, 0 < E.P.bytesOf e → n * E.P.bytesOf e ≤ 140737488355328 → n ≤ maxLen := by
      intro n hb hn
      have := Nat.le_mul_of_pos_right n hb
      simp only [maxLen]; omega
    cases s <;> simp only [bad] at hc ⊢
    case nil =>
      obtain ⟨c1, c2, c3, c4, c5⟩ := hc
      obtain ⟨news, hsrc⟩ := srcV_sound (P := E.P) hI c2 hx c1
      obtain ⟨i, zv, hi, hsz, hz, hzc, hzs⟩ := zc_some c2 c3
      have hby : E.P.bytesOf e = i.bytes := by simp [Program.bytesOf, hi]
      obtain ⟨X1, hX1, hI1, hv1⟩ := hI.promote key (E.P.cellsOf e) e
      have hap := hI1.append E.P (T := T) (ty := ty) (e := e) (ti := i) (zv := zv) (hget_push_new h key _) rfl hu hi hz rfl hsz c2 hzs (hsrc.mono hX1 rfl rfl) (by rw [hby] at c5; simpa using c5) (by simpa using hml _ c4 c5)
      obtain ⟨v', w', A', X', g1, g2, g3, g4, g5⟩ := hap
      rw [hv1] at g1
      rw [hs.nil_inv]
      rw [hset_push] at g4
      refine ⟨v', w', A', X', g1, g2, hX1.trans g3, ?_, ?_⟩
      · simpa using g4
      · simpa using g5
    case bsl s0 i0 n0 =>
      cases hg : hget h s0 i0 with
      | none => simp [hg] at hc
      | some B =>
        simp only [hg] at hc ⊢
        obtain ⟨c1, c2, c3, c4, c5, c6, c7, c8, c9⟩ := hc
        obtain ⟨news, hsrc⟩ := srcV_sound (P := E.P) hI c2 hx c1
        obtain ⟨i, zv, hi, hsz, hz, hzc, hzs⟩ := zc_some c2 c3
        have hby : E.P.bytesOf e = i.bytes := by simp [Program.bytesOf, hi]
        rw [← c5] at hsrc hsz hzs
        have hap := hI.append E.P (T := T) (ty := ty) (e := e) (ti := i) (zv := zv) hg c7 hu hi hz c6 hsz (by rw [c5]; exact c2) hzs hsrc (by rw [hby, ← c5] at c9; exact c9) (by rw [c5]; exact hml _ c4 c9)
        obtain ⟨v', w', A', X', g1, g2, g3, g4, g5⟩ := hap
        obtain ⟨a, c, rfl, hN, hn', hv⟩ := hs.bsl_inv
        have hb := hI.blk s0 i0 B hg
        rw [hv (by rw [hb.hlen]; exact c8)]
        rw [← c5]
        exact ⟨v', w', A', X', g1, g2, g3, g4, g5⟩
    case osl s0 i0 n0 off len cap =>
      cases hg : hget h s0 i0 with
      | none => simp [hg] at hc
      | some B =>
        simp only [hg] at hc ⊢
        obtain ⟨c1, c2, c3, c4, c5, c6, c7, c8, c9, c10, c11⟩ := hc
        obtain ⟨news, hsrc⟩ := srcV_sound (P := E.P) hI c2 hx c1
        obtain ⟨i, zv, hi, hsz, hz, hzc, hzs⟩ := zc_some c2 c4
        rw [← c3] at hsrc hsz
        obtain ⟨a, c', rfl, hcc, hN, hn', hv⟩ := hs.osl_inv
        have hb := hI.blk s0 i0 B hg
        subst c8
        obtain ⟨w', g1, g2, g3⟩ := hI.appendIn E.P (T := T) (ty := ty) (e := e) (ti := i) hg c6 hu hi c5 hsz hsrc hcc c9 (by rw [c3]; exact c10) c11
        obtain ⟨hv1, hv2⟩ := hv (by rw [hb.hlen]; exact c7)
        rw [hv1, Nat.zero_mul, Nat.add_zero]
        rw [← c3]
        exact ⟨_, w', A, X, g1, g2, Xle.refl X, g3, .osl s0 i0 n0 0 _ cap _ _ hcc hN hn' (fun hh => ⟨by rw [Nat.zero_mul, Nat.add_zero], hv2⟩)⟩
    case emp =>
      obtain ⟨a, rfl⟩ := hs.emp_inv
      by_cases he : (srcV h (E.P.cellsOf e) x).2.1 = []
      · rw [if_pos he] at hc
        rw [if_pos he]
        obtain ⟨c1, c2, c3⟩ := hc
        obtain ⟨news, hsrc⟩ := srcV_sound (P := E.P) hI c2 hx c1
        obtain ⟨i, zv, hi, hsz, hz, hzc, hzs⟩ := zc_some c2 c3
        rw [he] at hsrc
        rw [← hsz] at hsrc
        exact ⟨_, w, A, X, run_append_src_emp0 E.P T ty e i hu hi a hsrc rfl, Later.refl w A, Xle.refl X, hI, .pure (.emp a)⟩
      · rw [if_neg he] at hc
        rw [if_neg he]
        obtain ⟨c1, c2, c3, c4, c5⟩ := hc
        obtain ⟨news, hsrc⟩ := srcV_sound (P := E.P) hI c2 hx c1
        obtain ⟨i, zv, hi, hsz, hz, hzc, hzs⟩ := zc_some c2 c3
        have hby : E.P.bytesOf e = i.bytes := by simp [Program.bytesOf, hi]
        rw [hby] at c5
        have hm := hml _ c4 (by rw [hby]; exact c5)
        generalize hels : (srcV h (E.P.cellsOf e) x).2.1 = els at *
        generalize hcl : (srcV h (E.P.cellsOf e) x).2.2 = cl at *
        have hl0 : 0 < els.length := List.length_pos_iff.2 he
        have hsrc' := hsrc
        rw [← hsz] at hsrc'
        have hr := run_append_src_grow E.P T ty e i zv hu hi hz a 0 0 [] (by simp) (by simp) hsrc' (by omega) (by simp only [maxLen] at hm; omega) (growslice_fits (by omega) (by rw [Nat.zero_add]; exact c5))
        simp only [Nat.zero_add] at hr
        have hge := grownCap_ge w els.length 0 e
        have hmx := grownCap_le_maxLen w els.length 0 e hm
        obtain ⟨hLd, hId⟩ := hI.drew
        have hsz2 : (([] : List Value).toArray ++ news.toArray ++ Builtin.zeroCells zv.cells (grownCap w els.length 0 e - els.length)).size = grownCap w els.length 0 e * E.P.cellsOf e := by
          simp only [Array.size_append, List.size_toArray, size_zeroCells, hzs, hsrc.len, List.length_nil, Nat.zero_add, ← Nat.add_mul]
          congr 1; omega
        have hI' := hId.alloc key { z := E.P.cellsOf e, els := els, ty := e, cl := cl } (([] : List Value).toArray ++ news.toArray ++ Builtin.zeroCells zv.cells (grownCap w els.length 0 e - els.length)) (grownCap w els.length 0 e) rfl hge hmx hsrc.rows hsz2
          (fun e1 j row c he1 hj => by
            obtain ⟨u, k1, k3, k4⟩ := hsrc.cells e1 j row c he1 hj
            have hlt : e1 * E.P.cellsOf e + j < news.length := (List.getElem?_eq_some_iff.1 k1).1
            refine ⟨u, ?_, hsrc.one u (List.mem_of_getElem? k1), k3.mono hLd (Xle.refl X), fun hh => (k4 hh).mono hLd⟩
            rw [← Array.getElem?_toList]
            simp only [Array.toList_append, List.nil_append]
            rw [List.getElem?_append_left (by simpa using hlt)]
            exact k1)
        refine ⟨_, _, _, _, hr, hLd.trans (hId.later_alloc _), hId.xle_new key _ _, hI', ?_⟩
        exact .osl _ _ _ _ _ _ _ _ hge (by simp [refsNew]) (by simp [refsNew]) (fun _ => ⟨by simp [refsNew], by simp [refsNew, Hd.cap]⟩)

omit [Gls] in
theorem bool_und {T : TypeId} (h : isBool P T = true) : P.underlying T = some .bool := by
  unfold isBool at h; split at h <;> simp_all
omit [Gls] in
theorem ptr_und {T : TypeId} (h : isPtr P T = true) : ∃ e, P.underlying T = some (.pointer e) := by
  unfold isPtr at h; split at h <;> simp_all
omit [Gls] in
theorem fn_und {T : TypeId} (h : isFn P T = true) : ∃ a b c, P.underlying T = some (.func a b c) := by
  unfold isFn at h; split at h <;> simp_all
omit [Gls] in
theorem sl_und {T : TypeId} (h : (slEl P T).isSome = true) : ∃ e, P.underlying T = some (.slice e) := by
  cases hs : slEl P T with
  | none => simp [hs] at h
  | some e => exact ⟨e, slEl_some hs⟩

omit [Gls] in
theorem eq_fin {op : BinOp} {T : TypeId} {x y : Operand} {ua ub : Value} {r : Bool} (hE : ∀ d, (Op.equalIn (d + 1) T ua ub).run P w = .ok r w) (h1 : binOp .eql T ua ub = (do pure (.bool (← Op.equal T ua ub))))
    (h2 : binOp .neq T ua ub = (do pure (.bool (!(← Op.equal T ua ub))))) (hg : (eqGuard op T x y ua ub).run P w = .ok () w) :
    (eqGuard op T x y ua ub).run P w = .ok () w ∧ (binOp .eql T ua ub).run P w = .ok (.bool r) w ∧ (binOp .neq T ua ub).run P w = .ok (.bool (!r)) w := by
  have hE' : (Op.equal T ua ub).run P w = .ok r w := hE 9999
  refine ⟨hg, ?_, ?_⟩
  · rw [h1]; simp only [Sem.run_bind, hE', Result.andThen_ok, Sem.run_pure]
  · rw [h2]; simp only [Sem.run_bind, hE', Result.andThen_ok, Sem.run_pure]

omit [Gls] in
theorem eq_fin2 {op : BinOp} {T : TypeId} {x y : Operand} {us vs : Array Value} {r : Bool} (hE : ∀ d, (Op.equalIn (d + 2) T (.agg us) (.agg vs)).run P w = .ok r w) (hg : P.eqGuardType P.depth T = false) :
    (eqGuard op T x y (.agg us) (.agg vs)).run P w = .ok () w ∧ (binOp .eql T (.agg us) (.agg vs)).run P w = .ok (.bool r) w ∧ (binOp .neq T (.agg us) (.agg vs)).run P w = .ok (.bool (!r)) w := by
  have h := hE 9998
  refine ⟨run_eqGuard_agg w op T x y us vs hg, ?_, ?_⟩
  · rw [run_eql_struct, h]; rfl
  · rw [run_neq_struct, h]; rfl

omit [Gls] in
theorem scalT_plain {T : TypeId} (h : scalT P T = true) : P.plainKey T = true := by
  unfold scalT at h; unfold Program.plainKey
  cases hu : P.underlying T with
  | none => simp [hu] at h
  | some u => cases u <;> simp_all

omit [Gls] in
/-- Two cells and their types. -/
theorem eqTs_get : ∀ (ts : List TypeId) (a b : List V), (eqTs P ts a b).1 → a.length = ts.length ∧ b.length = ts.length
  | [], [], [], _ => ⟨rfl, rfl⟩
  | [], _ :: _, _, h => by simp [eqTs] at h
  | [], [], _ :: _, h => by simp [eqTs] at h
  | _ :: _, [], _, h => by simp [eqTs] at h
  | _ :: _, x :: _, [], h => by cases x <;> simp [eqTs] at h
  | _ :: ts, x :: a, y :: b, h => by
    cases x <;> cases y <;> first | (simp [eqTs] at h; done) | (simp only [eqTs] at h; have := eqTs_get ts a b h.2; simp [this])

omit [Gls] in
theorem eqOne {t : TypeId} {x y : V} {u v : Value} {ts : List TypeId} {a b : List V} (hx : RV w A X x u) (hy : RV w A X y v) (h : (eqTs P (t :: ts) (x :: a) (y :: b)).1) :
    ∃ r, (∀ d, (Op.equalIn (d + 1) t u v).run P w = .ok r w) ∧ (eqTs P (t :: ts) (x :: a) (y :: b)).2 = (r && (eqTs P ts a b).2) ∧ (eqTs P ts a b).1 := by
  cases x <;> cases y <;> simp only [eqTs] at h ⊢ <;> try (exact h.elim)
  · obtain ⟨⟨h1, rfl⟩, h2⟩ := h
    rw [hx.int_inv, hy.int_inv]
    obtain ⟨k', hk⟩ : ∃ k', P.underlying t = some (.int k') := by
      unfold intK at h1
      split at h1
      · rename_i k' hk; exact ⟨k', hk⟩
      · simp at h1
    exact ⟨_, fun d => run_equalIn_int w d t _ _ _ _ hk, rfl, h2⟩
  · obtain ⟨h1, h2⟩ := h
    rw [hx.bool_inv, hy.bool_inv]
    exact ⟨_, fun d => run_equalIn_bool w d t _ _ (bool_und h1), rfl, h2⟩

omit [Gls] in
theorem eqItems_sound {e : TypeId} (he : P.plainKey e = true) {us vs : Array Value} (d : Nat) : ∀ (n o : Nat) (a b : List V), (eqTs P (List.replicate n e) a b).1 → (∀ i c, a[i]? = some c → ∃ u, us[o + i]? = some u ∧ RV w A X c u) → (∀ i c, b[i]? = some c → ∃ u, vs[o + i]? = some u ∧ RV w A X c u) →
    (Op.eqItems (d + 1) e 1 us vs (List.range' o n)).run P w = .ok (eqTs P (List.replicate n e) a b).2 w
  | 0, o, a, b, h, _, _ => by
    have := eqTs_get _ _ _ h
    have e1 : a = [] := List.eq_nil_of_length_eq_zero (by simpa using this.1)
    have e2 : b = [] := List.eq_nil_of_length_eq_zero (by simpa using this.2)
    subst e1 e2
    simp [Op.eqItems, eqTs]
  | n + 1, o, a, b, h, ha, hb => by
    have := eqTs_get _ _ _ h
    cases a with
    | nil => simp at this
    | cons x a =>
      cases b with
      | nil => simp at this
      | cons y b =>
        rw [List.replicate_succ] at h ⊢
        obtain ⟨u, hu, hru⟩ := ha 0 x rfl
        obtain ⟨v, hv, hrv⟩ := hb 0 y rfl
        obtain ⟨r, h1, h2, h3⟩ := eqOne hru hrv h
        rw [Nat.add_zero] at hu hv
        rw [h2, List.range'_succ, Op.eqItems]
        have ih := eqItems_sound he d n (o + 1) a b h3 (fun i c hc => by have := ha (i + 1) c (by simpa using hc); rwa [show o + (i + 1) = o + 1 + i by omega] at this) (fun i c hc => by have := hb (i + 1) c (by simpa using hc); rwa [show o + (i + 1) = o + 1 + i by omega] at this)
        simp only [Nat.mul_one, Sem.run_bind, run_part_plain w he hu, run_part_plain w he hv, Result.andThen_ok, h1 d]
        cases r
        · simp
        · simpa using ih

omit [Gls] in
theorem eqFields_sound {us vs : Array Value} (d : Nat) : ∀ (fs : List Field) (o : Nat) (a b : List V), (fs.all fun f => f.name != "_" && scalT P f.type) = true → fs.map (·.offset) = List.range' o fs.length → (eqTs P (fs.map (·.type)) a b).1 → (∀ i c, a[i]? = some c → ∃ u, us[o + i]? = some u ∧ RV w A X c u) → (∀ i c, b[i]? = some c → ∃ u, vs[o + i]? = some u ∧ RV w A X c u) →
    (Op.eqFields (d + 1) us vs fs).run P w = .ok (eqTs P (fs.map (·.type)) a b).2 w
  | [], o, a, b, _, _, h, _, _ => by
    have := eqTs_get _ _ _ h
    have e1 : a = [] := List.eq_nil_of_length_eq_zero (by simpa using this.1)
    have e2 : b = [] := List.eq_nil_of_length_eq_zero (by simpa using this.2)
    subst e1 e2
    simp [Op.eqFields, eqTs]
  | f :: fs, o, a, b, hall, ho, h, ha, hb => by
    have := eqTs_get _ _ _ h
    cases a with
    | nil => simp at this
    | cons x a =>
      cases b with
      | nil => simp at this
      | cons y b =>
        simp only [List.all_cons, Bool.and_eq_true] at hall
        rw [List.map_cons, List.length_cons, List.range'_succ, List.cons.injEq] at ho
        rw [List.map_cons] at h ⊢
        obtain ⟨u, hu, hru⟩ := ha 0 x rfl
        obtain ⟨v, hv, hrv⟩ := hb 0 y rfl
        obtain ⟨r, h1, h2, h3⟩ := eqOne hru hrv h
        have hn : f.name ≠ "_" := by have := hall.1.1; simpa using this
        have he := scalT_plain hall.1.2
        rw [Nat.add_zero, ← ho.1] at hu hv
        rw [h2, Op.eqFields, if_pos hn]
        have ih := eqFields_sound d fs (o + 1) a b hall.2 ho.2 h3 (fun i c hc => by have := ha (i + 1) c (by simpa using hc); rwa [show o + (i + 1) = o + 1 + i by omega] at this) (fun i c hc => by have := hb (i + 1) c (by simpa using hc); rwa [show o + (i + 1) = o + 1 + i by omega] at this)
        simp only [Sem.run_bind, run_part_plain w he hu, run_part_plain w he hv, Result.andThen_ok, h1 d]
        cases r
        · simp
        · simpa using ih

omit [Gls] in
theorem eqAgg_sound {op : BinOp} {T : TypeId} {x y : Operand} {a b : List V} {ua ub : Value} (ha : RV w A X (.agg a) ua) (hb : RV w A X (.agg b) ub) (hf : flatEq P T = true) (hc : (eqTs P (leafTs P T) a b).1) :
    (eqGuard op T x y ua ub).run P w = .ok () w ∧ (binOp .eql T ua ub).run P w = .ok (.bool (eqTs P (leafTs P T) a b).2) w ∧ (binOp .neq T ua ub).run P w = .ok (.bool (!(eqTs P (leafTs P T) a b).2)) w := by
  obtain ⟨us, rfl, hl1, h1⟩ := ha.agg_inv
  obtain ⟨vs, rfl, hl2, h2⟩ := hb.agg_inv
  have g1 : ∀ i c, a[i]? = some c → ∃ u, us[0 + i]? = some u ∧ RV w A X c u := by
    intro i c hi
    have hlt : i < us.size := by rw [hl1]; exact (List.getElem?_eq_some_iff.1 hi).1
    refine ⟨us[i], by rw [Nat.zero_add]; exact Array.getElem?_eq_getElem hlt, ?_⟩
    have := h1 i c hi
    simpa [Array.getD_eq_getD_getElem?, Array.getElem?_eq_getElem hlt] using this
  have g2 : ∀ i c, b[i]? = some c → ∃ u, vs[0 + i]? = some u ∧ RV w A X c u := by
    intro i c hi
    have hlt : i < vs.size := by rw [hl2]; exact (List.getElem?_eq_some_iff.1 hi).1
    refine ⟨vs[i], by rw [Nat.zero_add]; exact Array.getElem?_eq_getElem hlt, ?_⟩
    have := h2 i c hi
    simpa [Array.getD_eq_getD_getElem?, Array.getElem?_eq_getElem hlt] using this
  unfold flatEq at hf
  unfold leafTs at hc ⊢
  cases hu : P.underlying T with
  | none => simp [hu] at hf
  | some u =>
    rw [hu] at hf hc
    cases u <;> simp only at hf hc ⊢ <;> try (cases hf; done)
    case array n e =>
      simp only [Bool.and_eq_true, beq_iff_eq, Bool.not_eq_true'] at hf
      obtain ⟨⟨⟨f1, f2⟩, f3⟩, f4⟩ := hf
      obtain ⟨i, hi⟩ := Option.isSome_iff_exists.1 f3
      refine eq_fin2 (fun d => ?_) f4
      rw [run_equalIn_array w (d + 1) us vs hu hi, f2, List.range_eq_range']
      exact eqItems_sound (scalT_plain f1) d n 0 a b hc g1 g2
    case struct fs =>
      simp only [Bool.and_eq_true, beq_iff_eq, Bool.not_eq_true'] at hf
      obtain ⟨⟨⟨f1, f2⟩, f3⟩, f4⟩ := hf
      have hfs : P.fieldsOf T = fs := by simp [Program.fieldsOf, hu]
      refine eq_fin2 (fun d => ?_) f3
      rw [run_equalIn_struct w (d + 1) T us vs (by rw [hfs]; exact hu) f2, hfs]
      exact eqFields_sound d fs.toList 0 a b f1 (by rw [f4, List.range_eq_range']; simp) hc g1 g2

omit [Gls] in
theorem eqV_sound {op : BinOp} {T : TypeId} {x y : Operand} {a b : V} {ua ub : Value} (ha : RV w A X a ua) (hb : RV w A X b ub) (hc : (eqV P T a b).1) :
    (eqGuard op T x y ua ub).run P w = .ok () w ∧ (binOp .eql T ua ub).run P w = .ok (.bool (eqV P T a b).2) w ∧ (binOp .neq T ua ub).run P w = .ok (.bool (!(eqV P T a b).2)) w := by
  unfold eqV at hc ⊢
  split at hc
  · exact eqAgg_sound ha hb hc.1 hc.2
  · rw [ha.bool_inv, hb.bool_inv]
    have hu := bool_und hc
    exact eq_fin (fun d => by simp [Op.equalIn, run_underlying hu]) rfl rfl (by cases op <;> rfl)
  · rw [ha.nilp_inv, hb.nilp_inv]
    obtain ⟨e, hu⟩ := ptr_und hc
    exact eq_fin (fun d => by simp [Op.equalIn, run_underlying hu]) rfl rfl (by cases op <;> rfl)
  · obtain ⟨p, rfl, _⟩ := hb.bptr_inv
    rw [ha.nilp_inv]
    obtain ⟨e, hu⟩ := ptr_und hc
    exact eq_fin (fun d => by simp [Op.equalIn, run_underlying hu]) rfl rfl (by cases op <;> rfl)
  · obtain ⟨p, rfl, _⟩ := ha.bptr_inv
    rw [hb.nilp_inv]
    obtain ⟨e, hu⟩ := ptr_und hc
    exact eq_fin (fun d => by simp [Op.equalIn, run_underlying hu]) rfl rfl (by cases op <;> rfl)
  · have h' := hb.ip_inv
    rw [ha.nilp_inv]
    obtain ⟨e, hu⟩ := ptr_und hc
    cases h'
    exact eq_fin (fun d => by simp [Op.equalIn, run_underlying hu]) rfl rfl (by cases op <;> rfl)
  · have h' := ha.ip_inv
    rw [hb.nilp_inv]
    obtain ⟨e, hu⟩ := ptr_und hc
    cases h'
    exact eq_fin (fun d => by simp [Op.equalIn, run_underlying hu]) rfl rfl (by cases op <;> rfl)
  · rw [ha.nil_inv, hb.nil_inv]
    obtain ⟨e, hu⟩ := sl_und hc
    exact eq_fin (fun d => by simp [Op.equalIn, run_underlying hu]) rfl rfl (by cases op <;> rfl)
  · rw [hb.nil_inv]
    obtain ⟨e, hu⟩ := sl_und hc.1
    have h' := ha.sl_inv
    cases h' with
    | sl0 => exact absurd rfl hc.2
    | sl => exact eq_fin (fun d => by simp [Op.equalIn, run_underlying hu]) rfl rfl (by cases op <;> rfl)
  · rw [ha.nil_inv]
    obtain ⟨e, hu⟩ := sl_und hc.1
    have h' := hb.sl_inv
    cases h' with
    | sl0 => exact absurd rfl hc.2
    | sl => exact eq_fin (fun d => by simp [Op.equalIn, run_underlying hu]) rfl rfl (by cases op <;> rfl)
  · obtain ⟨p, c', rfl, _⟩ := ha.osl_inv
    rw [hb.nil_inv]
    obtain ⟨e, hu⟩ := sl_und hc
    exact eq_fin (fun d => by simp [Op.equalIn, run_underlying hu]) rfl rfl (by cases op <;> rfl)
  · obtain ⟨p, c', rfl, _⟩ := hb.osl_inv
    rw [ha.nil_inv]
    obtain ⟨e, hu⟩ := sl_und hc
    exact eq_fin (fun d => by simp [Op.equalIn, run_underlying hu]) rfl rfl (by cases op <;> rfl)
  · obtain ⟨p, rfl⟩ := ha.emp_inv
    rw [hb.nil_inv]
    obtain ⟨e, hu⟩ := sl_und hc
    exact eq_fin (fun d => by simp [Op.equalIn, run_underlying hu]) rfl rfl (by cases op <;> rfl)
  · obtain ⟨p, rfl⟩ := hb.emp_inv
    rw [ha.nil_inv]
    obtain ⟨e, hu⟩ := sl_und hc
    exact eq_fin (fun d => by simp [Op.equalIn, run_underlying hu]) rfl rfl (by cases op <;> rfl)
  · rw [ha.nilf_inv, hb.nilf_inv]
    obtain ⟨p, q, r, hu⟩ := fn_und hc
    exact eq_fin (fun d => by simp [Op.equalIn, run_underlying hu]) rfl rfl (by cases op <;> rfl)
  · obtain ⟨us, rfl, _⟩ := hb.fn_inv
    rw [ha.nilf_inv]
    obtain ⟨p, q, r, hu⟩ := fn_und hc
    exact eq_fin (fun d => by simp [Op.equalIn, run_underlying hu]) rfl rfl (by cases op <;> rfl)
  · obtain ⟨us, rfl, _⟩ := ha.fn_inv
    rw [hb.nilf_inv]
    obtain ⟨p, q, r, hu⟩ := fn_und hc
    exact eq_fin (fun d => by simp [Op.equalIn, run_underlying hu]) rfl rfl (by cases op <;> rfl)
  · exact hc.elim

theorem binV_sound {op : BinOp} {T : TypeId} {x y : Operand} {a b : V} {ua ub : Value} (ha : RV w A X a ua) (hb : RV w A X b ub) (hc : (binV P op T a b).1) :
    ∃ r, (do eqGuard op T x y ua ub; binOp op T ua ub : Sem Value).run P w = .ok r w ∧ RV w A X (binV P op T a b).2 r := by
  unfold binV at hc ⊢
  split at hc
  · rename_i k m k' n
    rw [ha.int_inv, hb.int_inv]
    have hg' : (eqGuard op T x y (.int k m) (.int k' n)).run P w = .ok () w := by cases op <;> rfl
    simp only [Sem.run_bind, hg', Result.andThen_ok]
    cases op <;> simp only at hc ⊢
    case add => subst hc; exact ⟨_, by simp [binOp, Op.intArith], .pure (.int _ _)⟩
    case sub => subst hc; exact ⟨_, by simp [binOp, Op.intArith], .pure (.int _ _)⟩
    case mul => subst hc; exact ⟨_, by simp [binOp, Op.intArith], .pure (.int _ _)⟩
    case quo => obtain ⟨rfl, hn⟩ := hc; exact ⟨_, by simp [binOp, Op.intDiv, hn], .pure (.int _ _)⟩
    case rem => obtain ⟨rfl, hn⟩ := hc; exact ⟨_, by simp [binOp, Op.intDiv, hn], .pure (.int _ _)⟩
    case shl => exact ⟨_, by simp [binOp, Op.shift, shlV, shrV, show ¬ n < 0 by omega], .pure (.int _ _)⟩
    case shr => exact ⟨_, by simp [binOp, Op.shift, shlV, shrV, show ¬ n < 0 by omega], .pure (.int _ _)⟩
    case and => subst hc; exact ⟨.int k (bitw .and k m n), by unfold binOp; simp only [ne_eq, not_true_eq_false, if_false]; rfl, .pure (.int _ _)⟩
    case or => subst hc; exact ⟨.int k (bitw .or k m n), by unfold binOp; simp only [ne_eq, not_true_eq_false, if_false]; rfl, .pure (.int _ _)⟩
    case xor => subst hc; exact ⟨.int k (bitw .xor k m n), by unfold binOp; simp only [ne_eq, not_true_eq_false, if_false]; rfl, .pure (.int _ _)⟩
    case andNot => subst hc; exact ⟨.int k (bitw .andNot k m n), by unfold binOp; simp only [ne_eq, not_true_eq_false, if_false]; rfl, .pure (.int _ _)⟩
    case eql => subst hc; exact ⟨_, by unfold binOp; simp only [ne_eq, not_true_eq_false, if_false]; rfl, .pure (.bool _)⟩
    case neq => subst hc; exact ⟨_, by unfold binOp; simp only [ne_eq, not_true_eq_false, if_false]; rfl, .pure (.bool _)⟩
    case lss => subst hc; exact ⟨_, by unfold binOp; simp only [ne_eq, not_true_eq_false, if_false]; rfl, .pure (.bool _)⟩
    case leq => subst hc; exact ⟨_, by unfold binOp; simp only [ne_eq, not_true_eq_false, if_false]; rfl, .pure (.bool _)⟩
    case gtr => subst hc; exact ⟨_, by unfold binOp; simp only [ne_eq, not_true_eq_false, if_false]; rfl, .pure (.bool _)⟩
    case geq => subst hc; exact ⟨_, by unfold binOp; simp only [ne_eq, not_true_eq_false, if_false]; rfl, .pure (.bool _)⟩
  · split at hc
    · -- eql
      obtain ⟨hg, he⟩ := eqV_sound (x := x) (y := y) (op := .eql) ha hb hc
      refine ⟨_, ?_, .pure (.bool _)⟩
      simp only [Sem.run_bind, hg, Result.andThen_ok]
      exact he.1
    · obtain ⟨hg, he⟩ := eqV_sound (x := x) (y := y) (op := .neq) ha hb hc
      refine ⟨_, ?_, .pure (.bool _)⟩
      simp only [Sem.run_bind, hg, Result.andThen_ok]
      exact he.2
    · exact hc.elim


end
end Go.Sx
end
section
/- The soundness of slicing, lengths, and small operations. No conditions. -/
namespace Go.Sx
open Go.RowKit
variable [Gls]

section
variable {F : Fr} {w : World} {A : Nat → Prop} {X : Refs} {h : Hp} {P : Program}

def OptR : Option Int → Option Value → Prop
  | none, none => True
  | some n, some u => ∃ k, u = .int k n
  | _, _ => False

omit [Gls] in
theorem run_sliceBounds {s : Bool} {len cap : Nat} {lo hi : Option Int} {ul uh : Option Value} (hlo : OptR lo ul) (hhi : OptR hi uh) (h1 : 0 ≤ lo.getD 0) (h2 : lo.getD 0 ≤ hi.getD len) (h3 : hi.getD len ≤ cap) :
    (Instr.sliceBounds s len cap ul uh none).run P w = .ok ((lo.getD 0).toNat, (hi.getD len).toNat, cap) w := by
  unfold Instr.sliceBounds
  have hb : ∀ (k : IntKind) (i : Int) (y : Nat) (c : BoundsCode), 0 ≤ i → i ≤ y → (Instr.sliceBound (.int k i) y c).run P w = .ok i.toNat w := by
    intro k i y c g1 g2
    simp [Instr.sliceBound, asIntOf, g1, g2]
  cases lo with
  | none =>
    cases ul with
    | some => exact hlo.elim
    | none =>
      cases hi with
      | none =>
        cases uh with
        | some => exact hhi.elim
        | none => simp
      | some n =>
        cases uh with
        | none => exact hhi.elim
        | some u =>
          obtain ⟨k, rfl⟩ := hhi
          simp only [Option.getD_some, Option.getD_none] at h1 h2 h3
          simp [hb k n cap _ h2 h3]
  | some m =>
    cases ul with
    | none => exact hlo.elim
    | some u =>
      obtain ⟨k, rfl⟩ := hlo
      cases hi with
      | none =>
        cases uh with
        | some => exact hhi.elim
        | none =>
          simp only [Option.getD_some, Option.getD_none] at h1 h2 h3
          simp [hb k m len _ h1 h2]
      | some n =>
        cases uh with
        | none => exact hhi.elim
        | some u =>
          obtain ⟨k', rfl⟩ := hhi
          simp only [Option.getD_some] at h1 h2 h3
          simp [hb k' n cap _ (by omega) h3, hb k m n.toNat _ h1 (by omega)]

omit [Gls] in
theorem sliceAt_slice {T e : TypeId} (hu : P.underlying T = some (.slice e)) (h0 : 0 < P.cellsOf e) {a : Option Addr} {len cap : Nat} {lo hi : Option Int} {ul uh : Option Value} (hlo : OptR lo ul) (hhi : OptR hi uh)
    (h1 : 0 ≤ lo.getD 0) (h2 : lo.getD 0 ≤ hi.getD len) (h3 : hi.getD len ≤ cap) :
    (Instr.sliceAt T (.slice a len cap) ul uh none).run P w = .ok (.slice (if cap = (lo.getD 0).toNat then a else a.map (·.add ((lo.getD 0).toNat * P.cellsOf e))) ((hi.getD len).toNat - (lo.getD 0).toNat) (cap - (lo.getD 0).toNat)) w := by
  have hb := run_sliceBounds (P := P) (w := w) (s := true) hlo hhi h1 h2 h3
  simp [Instr.sliceAt, Instr.slice, run_underlying hu, hb, run_sizeOf' h0]

omit [Gls] in
theorem sliceAt_slice3 {T e : TypeId} (hu : P.underlying T = some (.slice e)) (h0 : 0 < P.cellsOf e) {a : Option Addr} {len cap : Nat} {lo : Option Int} {hi m : Int} {ul uh um : Option Value} (hlo : OptR lo ul) (hhi : OptR (some hi) uh) (hm : OptR (some m) um)
    (h1 : 0 ≤ lo.getD 0) (h2 : lo.getD 0 ≤ hi) (h3 : hi ≤ m) (h4 : m ≤ cap) : ∃ r, (Instr.sliceAt T (.slice a len cap) ul uh um).run P w = .ok r w := by
  have hb : ∀ (k : IntKind) (i : Int) (y : Nat) (c : BoundsCode), 0 ≤ i → i ≤ y → (Instr.sliceBound (.int k i) y c).run P w = .ok i.toNat w := by
    intro k i y c g1 g2
    simp [Instr.sliceBound, asIntOf, g1, g2]
  cases uh with
  | none => exact hhi.elim
  | some uh =>
    cases um with
    | none => exact hm.elim
    | some um =>
      obtain ⟨k1, rfl⟩ := hhi
      obtain ⟨k2, rfl⟩ := hm
      have hbb : ∃ l, (Instr.sliceBounds true len cap ul (some (.int k1 hi)) (some (.int k2 m))).run P w = .ok (l, hi.toNat, m.toNat) w := by
        unfold Instr.sliceBounds
        cases lo with
        | none =>
          cases ul with
          | some => exact hlo.elim
          | none =>
            simp only [Option.getD_none] at h1 h2
            exact ⟨0, by simp [hb k2 m cap _ (by omega) h4, hb k1 hi m.toNat _ (by omega) (by omega)]⟩
        | some q =>
          cases ul with
          | none => exact hlo.elim
          | some u =>
            obtain ⟨k, rfl⟩ := hlo
            simp only [Option.getD_some] at h1 h2
            exact ⟨q.toNat, by simp [hb k2 m cap _ (by omega) h4, hb k1 hi m.toNat _ (by omega) (by omega), hb k q hi.toNat _ h1 (by omega)]⟩
      obtain ⟨l, hbb⟩ := hbb
      exact ⟨.slice (if m.toNat = l then a else a.map (·.add (l * P.cellsOf e))) (hi.toNat - l) (m.toNat - l), by simp [Instr.sliceAt, Instr.slice, run_underlying hu, hbb, run_sizeOf' h0]⟩

omit [Gls] in
theorem sliceAt_array {T e : TypeId} {n : Nat} (hu : P.underlying T = some (.array n e)) (h0 : 0 < P.cellsOf e) {a : Addr} {lo hi : Option Int} {ul uh : Option Value} (hlo : OptR lo ul) (hhi : OptR hi uh)
    (h1 : 0 ≤ lo.getD 0) (h2 : lo.getD 0 ≤ hi.getD n) (h3 : hi.getD n ≤ n) :
    (Instr.sliceAt T (.pointer (some a)) ul uh none).run P w = .ok (.slice (some (if n = (lo.getD 0).toNat then a else a.add ((lo.getD 0).toNat * P.cellsOf e))) ((hi.getD n).toNat - (lo.getD 0).toNat) (n - (lo.getD 0).toNat)) w := by
  have hb := run_sliceBounds (P := P) (w := w) (s := false) hlo hhi h1 h2 h3
  simp [Instr.sliceAt, Instr.sureAddr, run_underlying hu, hb, run_sizeOf' h0]

omit [Gls] in
/-- A piece of immutable rows. -/
theorem PV.piece {z : Nat} {els : List (List V)} {b off cap : Nat} {us : Nat → Nat → Value} (hcap : els.length ≤ cap) (hb : b < w.heap.size) (hA : ¬ A b) (hz : ∀ row ∈ els, row.length = z)
    (hc : ∀ e j row c, els[e]? = some row → row[j]? = some c → w.cell? ⟨b, off + e * z + j, none⟩ = some (us e j) ∧ (us e j).oneCell' = true)
    (hv : ∀ e j row c, els[e]? = some row → row[j]? = some c → PV w A c (us e j)) {l m : Nat} (hl : l ≤ m) (hm : m ≤ els.length) :
    PV w A (.sl z ((els.drop l).take (m - l))) (.slice (if cap = l then some ⟨b, off, none⟩ else some ((⟨b, off, none⟩ : Addr).add (l * z))) (m - l) (cap - l)) := by
  have hlen : ((els.drop l).take (m - l)).length = m - l := by simp; omega
  by_cases he : m - l = 0
  · have h0 : (els.drop l).take (m - l) = [] := List.eq_nil_of_length_eq_zero (by omega)
    rw [h0, he]; exact .sl0 z _ _
  · rw [if_neg (by omega), addr_add]
    have := PV.sl (w := w) (A := A) z ((els.drop l).take (m - l)) b (off + l * z) (cap - l) (fun e j => us (l + e) j) (by omega) hb hA (fun row hr => hz row (List.mem_of_mem_drop (List.mem_of_mem_take hr)))
      (fun e j row c he hj => by
        have hlt : e < m - l := by have := (List.getElem?_eq_some_iff.1 he).1; omega
        rw [List.getElem?_take_of_lt hlt, List.getElem?_drop] at he
        have := hc _ j row c he hj
        rw [Nat.add_mul] at this
        rw [show off + l * z + e * z + j = off + (l * z + e * z) + j by omega]; exact this)
      (fun e j row c he hj => by
        have hlt : e < m - l := by have := (List.getElem?_eq_some_iff.1 he).1; omega
        rw [List.getElem?_take_of_lt hlt, List.getElem?_drop] at he
        exact hv _ j row c he hj)
    rw [hlen] at this; exact this

omit [Gls] in
/-- A row's cells as a slice of their own. -/
theorem PV.rowSlice {row : List V} {b off n : Nat} {us : Nat → Value} (hb : b < w.heap.size) (hA : ¬ A b) (hn : n ≤ row.length)
    (hc : ∀ (k : Nat) (c : V), row[k]? = some c → w.cell? ⟨b, off + k, none⟩ = some (us k) ∧ (us k).oneCell' = true ∧ PV w A c (us k)) {l m : Nat} (hl : l ≤ m) (hm : m ≤ n) :
    PV w A (.sl 1 (((row.drop l).take (m - l)).map fun c => [c])) (.slice (some (if n = l then ⟨b, off, none⟩ else (⟨b, off, none⟩ : Addr).add (l * 1))) (m - l) (n - l)) := by
  have hlen : (((row.drop l).take (m - l)).map fun c => [c]).length = m - l := by simp; omega
  by_cases he : m - l = 0
  · have h0 : ((row.drop l).take (m - l)).map (fun c => [c]) = [] := List.eq_nil_of_length_eq_zero (by rw [hlen]; exact he)
    rw [h0, he]; exact .sl0 1 _ _
  · rw [if_neg (by omega), addr_add]
    have get : ∀ (e j : Nat) (r : List V) (c : V), (((row.drop l).take (m - l)).map fun c => [c])[e]? = some r → r[j]? = some c → j = 0 ∧ row[l + e]? = some c := by
      intro e j r c h1 h2
      rw [List.getElem?_map] at h1
      cases hx : ((row.drop l).take (m - l))[e]? with
      | none => simp [hx] at h1
      | some x =>
        simp [hx] at h1; subst h1
        have hlt : e < m - l := by have := (List.getElem?_eq_some_iff.1 hx).1; rw [List.length_take] at this; omega
        rw [List.getElem?_take_of_lt hlt, List.getElem?_drop] at hx
        cases j with
        | zero => simp at h2; subst h2; exact ⟨rfl, hx⟩
        | succ j => simp at h2
    have := PV.sl (w := w) (A := A) 1 (((row.drop l).take (m - l)).map fun c => [c]) b (off + l * 1) (n - l) (fun e _ => us (l + e)) (by omega) hb hA (fun r hr => by obtain ⟨c, _, rfl⟩ := List.mem_map.1 hr; rfl)
      (fun e j r c he hj => by
        obtain ⟨rfl, hg⟩ := get e j r c he hj
        obtain ⟨g1, g2, _⟩ := hc _ c hg
        rw [show off + l * 1 + e * 1 + 0 = off + (l + e) by omega]; exact ⟨g1, g2⟩)
      (fun e j r c he hj => by
        obtain ⟨rfl, hg⟩ := get e j r c he hj
        exact (hc _ c hg).2.2)
    rw [hlen] at this; exact this

omit [Gls] in
theorem drop_drop_take (row : List V) (j l k : Nat) : ((row.drop j).drop l).take k = ((row.drop j).drop l).take k := rfl

theorem sliceV_sound {T : TypeId} {x : V} {u : Value} {lo hi mx : Option (Option Int)} {ul uh um : Option Value} (hI : Inv F w A X h) (hr : RV w A X x u)
    (hlo : ∀ r, lo = some r → OptR r ul) (hhi : ∀ r, hi = some r → OptR r uh) (hmx : ∀ r, mx = some r → OptR r um) (hc : (sliceV P T x lo hi mx h).1) :
    ∃ r, (Instr.sliceAt T u ul uh um).run P w = .ok r w ∧ RV w A X (sliceV P T x lo hi mx h).2 r := by
  unfold sliceV at hc ⊢
  split at hc
  · rename_i lo hi
    have hlo := hlo lo rfl
    have hhi := hhi hi rfl
    have hmx := hmx none rfl
    cases um with
    | some => exact hmx.elim
    | none =>
      simp only at hc ⊢
      split at hc
      · -- nil
        obtain ⟨h1, h2, h3, h4⟩ := hc
        cases hs : slEl P T with
        | none => exact absurd hs h1
        | some e =>
          rw [hr.nil_inv]
          have hz : 0 < P.cellsOf e := by simpa [hs] using h4
          have := sliceAt_slice (P := P) (w := w) (slEl_some hs) hz (a := none) (len := 0) (cap := 0) hlo hhi (by omega) (by simpa [h2] using (by rw [show ((0 : Nat) : Int) = 0 from rfl, h3]; exact Int.le_refl 0 : (0 : Int) ≤ hi.getD ((0 : Nat) : Int))) (by rw [show ((0 : Nat) : Int) = 0 from rfl, h3]; exact Int.le_refl 0)
          refine ⟨.slice none 0 0, ?_, .pure .nil⟩
          rw [this, h2, show hi.getD ((0 : Nat) : Int) = 0 from h3]
          simp
      · -- sl
        rename_i z els
        obtain ⟨h1, h2, h3, h4, h5, h6⟩ := hc
        cases hs : slEl P T with
        | none => exact absurd hs h1
        | some e =>
          have hz : P.cellsOf e = z := by simpa [hs] using h2
          have h' := hr.sl_inv
          cases h' with
          | sl0 _ a cap =>
            simp only [List.length_nil] at h4 h5
            have := sliceAt_slice (P := P) (w := w) (slEl_some hs) (by rw [hz]; exact h6) (a := a) (len := 0) (cap := cap) hlo hhi h3 h4 (by omega)
            refine ⟨_, this, .pure ?_⟩
            simp only [List.drop_nil, List.take_nil, List.length_nil]
            have e0 : (hi.getD ((0 : Nat) : Int)).toNat - (lo.getD 0).toNat = 0 := by omega
            rw [e0]; exact .sl0 _ _ _
          | sl _ _ b off cap us hcap hb hA hz' hcell hv =>
            have := sliceAt_slice (P := P) (w := w) (slEl_some hs) (by rw [hz]; exact h6) (a := some ⟨b, off, none⟩) (len := els.length) (cap := cap) hlo hhi h3 h4 (by omega)
            refine ⟨_, this, .pure ?_⟩
            have hp := PV.piece (w := w) (A := A) hcap hb hA hz' hcell hv (l := (lo.getD 0).toNat) (m := (hi.getD els.length).toNat) (by omega) (by omega)
            rw [hz]
            simpa using hp
      · -- ip
        rename_i z els e j
        cases ha : arEl P T with
        | none => simp [ha] at hc
        | some ne =>
          obtain ⟨n, el⟩ := ne
          simp only [ha] at hc ⊢
          obtain ⟨h1, h2, h3, h4, h5, h6⟩ := hc
          have h' := hr.ip_inv
          cases h' with
          | ip _ _ _ _ b off us hb hA hz hcell hv =>
            have hrun := sliceAt_array (P := P) (w := w) (arEl_some ha) (by omega) (a := ⟨b, off + e * z + j, none⟩) hlo hhi h2 h3 h4
            have hrow : (els.getD e []).length = z := hz _ (List.mem_of_getElem? (getD_get h5))
            refine ⟨_, hrun, .pure ?_⟩
            rw [h1]
            exact PV.rowSlice (w := w) (A := A) (row := (els.getD e []).drop j) (n := n) (us := fun k => us e (j + k)) hb hA (by rw [List.length_drop]; omega) (fun k c hk => by
              rw [List.getElem?_drop] at hk
              have g := hcell e _ _ c (getD_get h5) hk
              rw [show off + e * z + j + k = off + e * z + (j + k) by omega]
              exact ⟨g.1, g.2, hv e _ _ c (getD_get h5) hk⟩) (l := (lo.getD 0).toNat) (m := (hi.getD n).toNat) (by omega) (by omega)
      · -- bptr
        rename_i s i n0 e j
        cases ha : arEl P T with
        | none => simp [ha] at hc
        | some ne =>
          obtain ⟨n, el⟩ := ne
          cases hg : hget h s i with
          | none => simp [ha, hg] at hc
          | some B =>
            simp only [ha, hg] at hc ⊢
            obtain ⟨hfz, hcl, hn0, h1, h2, h3, h4, h5, h6⟩ := hc
            obtain ⟨a, rfl, _, _, had⟩ := hr.bptr_inv
            have hb := hI.blk s i B hg
            have ha' := had (by rw [hb.hlen]; exact hn0)
            rw [hb.hz] at ha'
            subst ha'
            have hrun := sliceAt_array (P := P) (w := w) (arEl_some ha) (by omega) (a := ⟨(X.D s i).b, (X.D s i).o + e * B.z + j, none⟩) hlo hhi h2 h3 h4
            have hrow : (B.els.getD e []).length = B.z := hb.rows _ (List.mem_of_getElem? (getD_get h5))
            refine ⟨_, hrun, .pure ?_⟩
            rw [h1]
            have hmem : (X.D s i).b < w.heap.size ∧ ¬ A (X.D s i).b := by
              rcases hb.mem with ⟨_, hh⟩ | ⟨arr, cap, g1, g2, g3, g4, g5, g6, g7, g8⟩
              · rw [hh] at h5; simp at h5
              · exact ⟨(Array.getElem?_eq_some_iff.1 g1).1, g7 hfz⟩
            exact PV.rowSlice (w := w) (A := A) (row := (B.els.getD e []).drop j) (n := n) (us := fun k => (w.cell? ⟨(X.D s i).b, (X.D s i).o + e * B.z + (j + k), none⟩).getD und) hmem.1 hmem.2 (by rw [List.length_drop]; omega) (fun k c hk => by
              rw [List.getElem?_drop] at hk
              obtain ⟨u, g1, g2, g3, g4⟩ := hI.cells hg h5 _ c hk
              simp only [g1, Option.getD_some]
              rw [show (X.D s i).o + e * B.z + j + k = (X.D s i).o + e * B.z + (j + k) by omega]
              exact ⟨g1, g2, g4 hcl⟩) (l := (lo.getD 0).toNat) (m := (hi.getD n).toNat) (by omega) (by omega)
      · -- bsl
        rename_i s i n
        cases hg : hget h s i with
        | none => simp [hg] at hc
        | some B =>
          simp only [hg] at hc ⊢
          cases hfz : B.fz with
          | false =>
            rw [hfz] at hc
            simp only at hc ⊢
            obtain ⟨h1, h2, h3, h4, h5, h6, h7, hz0⟩ := hc
            cases hs : slEl P T with
            | none => exact absurd hs h1
            | some e =>
              have hz : P.cellsOf e = B.z := by simpa [hs] using h2
              obtain ⟨a, c, rfl, hN, hn', hv⟩ := hr.bsl_inv
              have hb := hI.blk s i B hg
              have hv' := hv (by rw [hb.hlen]; exact h3)
              rcases hb.mem with ⟨_, hh⟩ | ⟨arr, cap, g1, g2, g3, g4, g5, g6, g7, g8⟩
              · rw [hh] at h3; simp at h3; omega
              · rw [g2] at hv'
                injection hv' with e1 e2 e3
                subst e1 e3
                have hrun := sliceAt_slice (P := P) (w := w) (slEl_some hs) (by rw [hz]; exact hz0) (a := some ⟨(X.D s i).b, (X.D s i).o, none⟩) (len := n) (cap := c) hlo hhi h4 h5 (by omega)
                refine ⟨_, hrun, ?_⟩
                rw [if_neg (by omega)]
                refine .osl s i n (lo.getD 0).toNat _ _ (Addr.add ⟨(X.D s i).b, (X.D s i).o, none⟩ ((lo.getD 0).toNat * P.cellsOf e)) _ (by omega) hN hn' fun _ => ⟨by rw [addr_add, hb.hz, hz], ?_⟩
                have : (X.D s i).cap = c := by unfold Hd.cap; rw [g2]
                omega
          | true =>
          rw [hfz] at hc
          simp only at hc ⊢
          obtain ⟨h1, h2, h3, hn0, h4, h5, h6, hcl, hz0⟩ := hc
          cases hs : slEl P T with
          | none => exact absurd hs h1
          | some e =>
            have hz : P.cellsOf e = B.z := by simpa [hs] using h2
            obtain ⟨a, c, rfl, hN, hn', hv⟩ := hr.bsl_inv
            have hb := hI.blk s i B hg
            have hv' := hv (by rw [hb.hlen]; exact h3)
            rcases hb.mem with ⟨_, hh⟩ | ⟨arr, cap, g1, g2, g3, g4, g5, g6, g7, g8⟩
            · rw [hh] at h3; simp at h3; omega
            · rw [g2] at hv'
              injection hv' with e1 e2 e3
              subst e1 e3
              have hrun := sliceAt_slice (P := P) (w := w) (slEl_some hs) (by rw [hz]; exact hz0) (a := some ⟨(X.D s i).b, (X.D s i).o, none⟩) (len := n) (cap := c) hlo hhi h4 h5 (by omega)
              refine ⟨_, hrun, .pure ?_⟩
              have hp := PV.piece (w := w) (A := A) (off := (X.D s i).o) (us := fun e j => (w.cell? ⟨(X.D s i).b, (X.D s i).o + e * B.z + j, none⟩).getD und) g3 (Array.getElem?_eq_some_iff.1 g1).1 (g7 hfz) hb.rows (fun e j row c he hj => by
                obtain ⟨u, k1, k2, k3, k4⟩ := g6 e j row c he hj
                have hcell : w.cell? ⟨(X.D s i).b, (X.D s i).o + e * B.z + j, none⟩ = some u := by simp [World.cell?, g1, k1]
                simp only [hcell, Option.getD_some]; exact ⟨trivial, k2⟩) (fun e j row c he hj => by
                obtain ⟨u, k1, k2, k3, k4⟩ := g6 e j row c he hj
                have hcell : w.cell? ⟨(X.D s i).b, (X.D s i).o + e * B.z + j, none⟩ = some u := by simp [World.cell?, g1, k1]
                simp only [hcell, Option.getD_some]; exact k4 hcl) (l := (lo.getD 0).toNat) (m := (hi.getD n).toNat) (by omega) (by omega)
              rw [hz]
              simpa using hp
      · -- osl
        rename_i s i n off len cap
        obtain ⟨⟨h1, h2, h3, h4, h5, h6⟩, h7⟩ := hc
        cases hs : slEl P T with
        | none => exact absurd hs h1
        | some e =>
          have hz : 0 < P.cellsOf e := by simpa [hs] using h2
          obtain ⟨a, c, rfl, hcc, hN, hn', hv⟩ := hr.osl_inv
          have hrun := sliceAt_slice (P := P) (w := w) (slEl_some hs) hz (a := some a) (len := len) (cap := c) hlo hhi h3 h4 (by omega)
          generalize hl : (lo.getD 0).toNat = l at *
          rcases h7 with h7 | ⟨h7, h8⟩
          · have hl0 : l = 0 := by omega
            subst hl0
            refine ⟨_, hrun, ?_⟩
            have ha : (if c = 0 then some a else (some a).map (·.add (0 * P.cellsOf e))) = some a := by
              split
              · rfl
              · simp [Addr.add]
            rw [ha]
            exact .osl s i n off _ cap a _ hcc hN hn' hv
          · refine ⟨_, hrun, ?_⟩
            have hcl : ¬ c = l := by omega
            rw [if_neg hcl]
            cases hg : hget h s i with
            | none => rw [hg] at h8; exact h8.elim
            | some B =>
              rw [hg] at h8
              have hzB : P.cellsOf e = B.z := by simpa [hs] using h8
              have hb := hI.blk s i B hg
              refine .osl s i n (off + l) _ (cap - l) (a.add (l * P.cellsOf e)) _ (by omega) hN hn' fun hh => ?_
              obtain ⟨v1, v2⟩ := hv hh
              refine ⟨by rw [v1, addr_add, hb.hz, hzB, Nat.add_mul, Nat.add_assoc], by omega⟩
      · exact hc.elim
  · rename_i lo hi m
    have hlo := hlo lo rfl
    have hhi := hhi (some hi) rfl
    have hmx := hmx (some m) rfl
    split at hc
    · rename_i s i n
      cases hg : hget h s i with
      | none => simp [hg] at hc
      | some B =>
        simp only [hg] at hc ⊢
        obtain ⟨h1, h2, h3, h4, h5, h6, h7⟩ := hc
        cases hs : slEl P T with
        | none => exact absurd hs h1
        | some e =>
          have hz : 0 < P.cellsOf e := by simpa [hs] using h2
          obtain ⟨a, c, rfl, hN, hn', hv⟩ := hr.bsl_inv
          have hb := hI.blk s i B hg
          have hv' := hv (by rw [hb.hlen]; exact h3)
          have hcap : n ≤ c := by
            rcases hb.mem with ⟨hh0, hh⟩ | ⟨arr, cap, g1, g2, g3, g4, g5, g6, g7, g8⟩
            · rw [hh] at h3; simp at h3; omega
            · rw [g2] at hv'
              injection hv' with e1 e2 e3
              omega
          obtain ⟨r, hrun⟩ := sliceAt_slice3 (P := P) (w := w) (slEl_some hs) hz (a := a) (len := n) (cap := c) hlo hhi hmx h4 h5 h6 (by omega)
          exact ⟨r, hrun, .pure (.top _)⟩
    · rename_i s i n off len cap
      obtain ⟨h1, h2, h3, h4, h5, h6⟩ := hc
      cases hs : slEl P T with
      | none => exact absurd hs h1
      | some e =>
        have hz : 0 < P.cellsOf e := by simpa [hs] using h2
        obtain ⟨a, c, rfl, hcc, hN, hn', hv⟩ := hr.osl_inv
        obtain ⟨r, hrun⟩ := sliceAt_slice3 (P := P) (w := w) (slEl_some hs) hz (a := some a) (len := len) (cap := c) hlo hhi hmx h3 h4 h5 (by omega)
        exact ⟨r, hrun, .pure (.top _)⟩
    · exact hc.elim
  · exact hc.elim

omit [Gls] in
theorem run_append_zeros (P : Program) (t it ty e : TypeId) (k k' : IntKind) (i : TypeInfo) (z : Value) (ht : P.underlying t = some (.slice e)) (hit : P.underlying it = some (.int k)) (hi : P.info? e = some i) (hz : i.zero = some z) (hi0 : 0 < i.size)
    {m : Nat} (h0 : 0 < m) (h63 : (m : Int) ≤ 9223372036854775807) (h48 : m * i.bytes ≤ 281474976710656) :
    (Builtin.append_ #[t, it] ty #[.slice none 0 0, .int k' m]).run P w =
      .ok (.slice (some ⟨w.heap.size, 0, none⟩) m (grownCap w m 0 e)) (w.drew.alloc (.cells (Builtin.zeroCells z.cells m ++ Builtin.zeroCells z.cells (grownCap w m 0 e - m)) e)) := by
  have hn : ¬ m = 0 := by omega
  have hw : IntKind.wrap .i64 (m : Int) = m := by rw [IntKind.wrap_i64]; omega
  have h63' : ¬ (9223372036854775807 < (m : Int)) := by omega
  have h48' : ¬ (281474976710656 < Builtin.nextslicecap m 0 * i.bytes) := by rw [nextslicecap_zero h0]; omega
  have h48'' : ¬ (281474976710656 < (m : Int) * (i.bytes : Int)) := by
    have : ((m * i.bytes : Nat) : Int) = (m : Int) * (i.bytes : Int) := by simp
    omega
  have hnz : ¬ (m * i.size = 0) := Nat.ne_of_gt (Nat.mul_pos h0 hi0)
  have hw2 : ¬ (m : Int) < 0 := by omega
  simp [Builtin.append_, run_underlying ht, run_underlying hit, sizeOf, typeInfo, zeroValue, hi, hz, Builtin.lenOf, hn, hw, h63', h48', h48'', Question.forced, run_firstCells_none, newRow, grownCap, asInt, asIntOf, hw2]
  intro hh; exact absurd hh hnz

theorem appendZ_sound {own : Bool} {key : Nat} {T T2 ty : TypeId} {s x : V} {us ux : Value} (hI : Inv F w A X h) (hs : RV w A X s us) (hx : RV w A X x ux) (hc : (sAppendZ P own key T T2 s x h).c) :
    ∃ r w' A' X', (Builtin.append_ #[T, T2] ty #[us, ux]).run P w = .ok r w' ∧ Later w A w' A' ∧ Xle X X' ∧ Inv F w' A' X' (sAppendZ P own key T T2 s x h).h ∧ RV w' A' X' (sAppendZ P own key T T2 s x h).v r := by
  unfold sAppendZ at hc ⊢
  split at hc
  · rename_i e k k' m hsl hik
    have hu := slEl_some hsl
    rw [hs.nil_inv, hx.int_inv]
    obtain ⟨c0, c1, c3, c4, c5, c6, c7⟩ := hc
    obtain ⟨i, zv, hi, hsz0, hz, hzc, hsz⟩ := zc_some c4 c3
    have hby : P.bytesOf e = i.bytes := by simp [Program.bytesOf, hi]
    obtain ⟨q, rfl⟩ := Int.eq_ofNat_of_zero_le (Int.le_of_lt c1)
    have hint : P.underlying T2 = some (.int k) := by
      unfold intK at hik
      split at hik <;> simp_all
    have hqb : q * i.bytes ≤ 140737488355328 := by
      rw [hby] at c6
      have : ((q * i.bytes : Nat) : Int) = (q : Int) * (i.bytes : Int) := by simp
      omega
    have hr := run_append_zeros (w := w) P T T2 ty e k k' i zv hu hint hi hz (by omega) (m := q) (by omega) c7 (by omega)
    obtain ⟨hLd, hId⟩ := hI.drew
    have hqm : q ≤ maxLen := by simp only [maxLen]; omega
    have hcap := grownCap_ge w q 0 e
    have hgm := grownCap_le_maxLen w q 0 e hqm
    have hcells : ∀ (e1 j : Nat) (row : List V) (c : V), (List.replicate q (zc P e))[e1]? = some row → row[j]? = some c → ∃ u, (Builtin.zeroCells zv.cells q ++ Builtin.zeroCells zv.cells (grownCap w q 0 e - q))[e1 * P.cellsOf e + j]? = some u ∧ u.oneCell' = true ∧ RV w.drew A X c u ∧ (true = true → PV w.drew A c u) := by
      intro e1 j row c he hj
      have hlt : e1 < q := by have := (List.getElem?_eq_some_iff.1 he).1; simpa using this
      have hrow : row = zc P e := List.eq_of_mem_replicate (List.mem_of_getElem? he)
      subst hrow
      have hjl : j < zv.cells.size := by have := (List.getElem?_eq_some_iff.1 hj).1; omega
      have hin : e1 * zv.cells.size + j < (Builtin.zeroCells zv.cells q).size := by rw [size_zeroCells]; exact idx_lt hlt hjl
      have hg : (Builtin.zeroCells zv.cells q ++ Builtin.zeroCells zv.cells (grownCap w q 0 e - q))[e1 * P.cellsOf e + j]? = zv.cells[j]? := by
        rw [← hsz, Array.getElem?_append_left hin]; exact zrow_get hlt hjl
      rw [hg]
      have hok := ofVal1_cells (w := w.drew) (A := A) (X := X) (zs := zv.cells) (by rw [← hzc]; exact c5)
      rw [← hzc] at hok
      obtain ⟨u, k1, k2, k3⟩ := hok.2 j c hj
      refine ⟨u, k1, k2, k3, fun _ => ?_⟩
      rw [hzc] at hj
      obtain ⟨x, hx, hp⟩ := ofVal1_pv (w := w.drew) (A := A) hj
      have hx' : zv.cells[j]? = some x := by simpa using hx
      rw [k1] at hx'; cases hx'; exact hp
    have hsize : (Builtin.zeroCells zv.cells q ++ Builtin.zeroCells zv.cells (grownCap w q 0 e - q)).size = grownCap w q 0 e * P.cellsOf e := by
      rw [Array.size_append, size_zeroCells, size_zeroCells, hsz, ← Nat.add_mul]; congr 1; omega
    have hI' := hId.alloc key { z := P.cellsOf e, els := List.replicate q (zc P e), ty := e } _ (grownCap w q 0 e) rfl (by simp; exact hcap) hgm (fun row hr => by rw [List.eq_of_mem_replicate hr]; exact c3) hsize hcells
    simp only [Int.toNat_natCast]
    refine ⟨_, _, _, _, hr, hLd.trans (hId.later_alloc _), hId.xle_new key _ _, hI', ?_⟩
    exact .osl _ _ _ _ _ _ _ _ hcap (by simp [refsNew]) (by simp [refsNew]) (fun _ => by simp [refsNew, Hd.cap])
  · exact hc.elim

end
end Go.Sx
end
