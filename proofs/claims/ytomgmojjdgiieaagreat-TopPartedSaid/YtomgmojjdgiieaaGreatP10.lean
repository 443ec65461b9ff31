/- Owned slices that go on as new blocks; copy. No conditions. -/
import Derived.Test.YtomgmojjdgiieaaGreatP09
set_option linter.unusedSimpArgs false
set_option linter.unusedVariables false
set_option linter.unusedSectionVars false
namespace Go.Sx
open Go.RowKit
variable [Gls]
section
variable {F : Fr} {w : World} {A : Nat → Prop} {X : Refs} {h : Hp} {P : Program}
theorem Inv.moveW (hI : Inv F w A X h) {s i : Nat} {B : Blk} (hB : hget h s i = some B) (hfz : B.fz = false) (key : Nat) {off k c : Nat} {a : Option Addr} (hwin : off + k ≤ B.els.length)
    (hu : (a = none ∧ k = 0 ∧ c = 0) ∨ ∃ o', a = some ⟨(X.D s i).b, o', none⟩ ∧ (X.D s i).real ∧ o' + c * B.z ≤ (X.D s i).o + (X.D s i).cap * B.z ∧ c ≤ (X.D s i).cap ∧ k ≤ c ∧ (k = 0 ∨ o' = (X.D s i).o + off * B.z)) :
    ∃ X', Xle X X' ∧ Inv F w A X' (hpush (hcut h s i) key { B with els := (B.els.drop off).take k }) ∧ RV w A X' (.bsl key (hnext h key) k) (.slice a k c) ∧ (X'.D key (hnext h key)).v = .slice a k c := by
  have hb := hI.blk s i B hB
  have hlt := hget_lt hB
  have hnk : hnext (hcut h s i) key = hnext h key := hnext_cut hlt key
  have hlen : ((B.els.drop off).take k).length = k := by simp; omega
  obtain ⟨d', hd1, hd2, hd3, hd4⟩ : ∃ d' : Hd, d'.z = B.z ∧ d'.len = k ∧ d'.v = .slice a k c ∧
      ((a = none ∧ k = 0 ∧ c = 0) ∨ ∃ o', d'.b = (X.D s i).b ∧ d'.o = o' ∧ a = some ⟨(X.D s i).b, o', none⟩ ∧ (X.D s i).real ∧ o' + c * B.z ≤ (X.D s i).o + (X.D s i).cap * B.z ∧ c ≤ (X.D s i).cap ∧ k ≤ c ∧ (k = 0 ∨ o' = (X.D s i).o + off * B.z)) := by
    rcases hu with hu | ⟨o', h1, h2⟩
    · exact ⟨{ b := 0, z := B.z, len := k, v := .slice a k c }, rfl, rfl, rfl, .inl hu⟩
    · exact ⟨{ b := (X.D s i).b, z := B.z, len := k, v := .slice a k c, o := o' }, rfl, rfl, rfl, .inr ⟨o', rfl, rfl, h1, h2⟩⟩
  let X' : Refs := { M := X.M, K := X.K, D := fun s' i' => if s' = key ∧ i' = hnext h key then d' else X.D s' i', N := fun s' => if s' = key then hnext h key + 1 else X.N s' }
  have hX : Xle X X' := by
    refine ⟨?_, .same rfl rfl⟩
    intro s' i' hi
    have := hI.nb s'
    constructor
    · simp only [X']; split
      · rename_i hs; subst hs; omega
      · exact hi
    · left; simp only [X']; rw [if_neg]; rintro ⟨rfl, rfl⟩; omega
  have hDn : X'.D key (hnext h key) = d' := by simp [X']
  have hold : ∀ s' i', ¬ (s' = key ∧ i' = hnext h key) → X'.D s' i' = X.D s' i' := fun s' i' hn => by simp only [X']; rw [if_neg hn]
  have get : ∀ {s' i' B'}, hget (hpush (hcut h s i) key { B with els := (B.els.drop off).take k }) s' i' = some B' →
      (s' = key ∧ i' = hnext h key ∧ B' = { B with els := (B.els.drop off).take k }) ∨ (¬ (s' = key ∧ i' = hnext h key) ∧ hget h s' i' = some B' ∧ ¬ (s' = s ∧ i' ≤ i)) := by
    intro s' i' B' hB'
    by_cases hnew : s' = key ∧ i' = hnext h key
    · obtain ⟨rfl, rfl⟩ := hnew
      rw [← hnk, hget_push_new] at hB'
      exact .inl ⟨rfl, rfl, (Option.some.inj hB').symm⟩
    · rw [hget_push_old _ _ _ _ _ (fun e hi => hnew ⟨e, by rw [hi, hnk]⟩), hget_cut] at hB'
      split at hB'
      · cases hB'
      · rename_i hc; exact .inr ⟨hnew, hB', hc⟩
  refine ⟨X', hX, { gl := hI.gl, abd := hI.abd, aold := hI.aold, akeep := hI.akeep, os := hI.os, tape := hI.tape, output := hI.output, size := hI.size, same := hI.same, xle := hI.xle.trans hX, nb := ?_, mi := hI.mi.step (fun s' => by rw [mps_push, mps_cut]) rfl rfl (fun _ _ _ h => h) (fun _ _ _ _ h => h), blk := ?_, inj := ?_ }, .bsl key _ k a c (by simp [X']) (by rw [hDn, hd2]; exact Nat.le_refl _) (fun _ => by rw [hDn, hd3]), by rw [hDn, hd3]⟩
  · intro s'
    rw [hnext_push, hnext_cut hlt]
    simp only [X']
    have := hI.nb s'
    split
    · rename_i hs; subst hs; omega
    · omega
  · intro s' i' B' hB'
    rcases get hB' with ⟨rfl, rfl, rfl⟩ | ⟨hn, hg, _⟩
    · refine { hN := by simp [X'], hz := by rw [hDn, hd1], hlen := by rw [hDn, hd2, hlen], rows := fun row hr => hb.rows row (List.mem_of_mem_drop (List.mem_of_mem_take hr)), mem := ?_ }
      rcases hd4 with ⟨e1, e2, e3⟩ | ⟨o', e1, e2, e3, e4, e5, e6, e7, e8⟩
      · subst e1 e2 e3
        exact .inl ⟨by rw [hDn, hd3], by simp⟩
      · rcases hb.mem with hm | ⟨arr, cap, h1, h2, h3, h4, h5, h6, h7, h8⟩
        · exact absurd hm.1 e4
        · have hcap : (X.D s i).cap = cap := by unfold Hd.cap; rw [h2]
          rw [hcap] at e5 e6
          refine .inr ⟨arr, c, by rw [hDn, e1]; exact h1, by rw [hDn, hd3, e1, e2, hlen, e3], by rw [hlen]; exact e7, by omega, by rw [hDn, e2]; simp only; omega, ?_, by rw [hDn, e1]; exact h7, by rw [hDn, e1]; exact h8⟩
          intro e j row x he hj
          have hek : e < k := by have := (List.getElem?_eq_some_iff.1 he).1; rw [hlen] at this; exact this
          rw [List.getElem?_take_of_lt hek, List.getElem?_drop] at he
          obtain ⟨u, g1, g2, g3, g4⟩ := h6 _ j row x he hj
          refine ⟨u, ?_, g2, g3.mono (Later.refl w A) hX, g4⟩
          rw [hDn, e2]
          have e8 := e8.resolve_left (by omega)
          rw [Nat.add_mul] at g1
          rw [e8]
          simp only
          rw [show (X.D s i).o + off * B.z + e * B.z + j = (X.D s i).o + (off * B.z + e * B.z) + j by omega]
          exact g1
    · have ho := hI.blk s' i' B' hg
      have hD := hold s' i' hn
      refine { hN := (hX.1 s' i' ho.hN).1, hz := by rw [hD]; exact ho.hz, hlen := by rw [hD]; exact ho.hlen, rows := ho.rows, mem := ?_ }
      rw [hD]
      rcases ho.mem with hm' | ⟨arr', cap', h1, h2, h3, h4, h5, h6, h7, h8⟩
      · exact .inl hm'
      · refine .inr ⟨arr', cap', h1, h2, h3, h4, h5, ?_, h7, h8⟩
        intro e j row c he hj
        obtain ⟨u, g1, g2, g3, g4⟩ := h6 e j row c he hj
        exact ⟨u, g1, g2, g3.mono (Later.refl w A) hX, g4⟩
  · intro s1 i1 B1 s2 i2 B2 hb1 hb2 hr1 hr2 heq
    have clash : ∀ s' i' B', hget h s' i' = some B' → ¬ (s' = s ∧ i' ≤ i) → (X.D s' i').real → d'.real → d'.b = (X.D s' i').b → False := by
      intro s' i' B' hg hc hr hdr e
      rcases hd4 with ⟨e1, e2, e3⟩ | ⟨o', e1, e2, e3, e4, _⟩
      · subst e1 e2 e3; exact hdr hd3
      · obtain ⟨rfl, rfl⟩ := hI.inj s' i' B' s i B hg hB hr e4 (by rw [← e, e1])
        exact hc ⟨rfl, Nat.le_refl _⟩
    rcases get hb1 with ⟨rfl, rfl, rfl⟩ | ⟨hn1, hg1, hc1⟩ <;> rcases get hb2 with ⟨rfl, rfl, rfl⟩ | ⟨hn2, hg2, hc2⟩
    · exact ⟨rfl, rfl⟩
    · rw [hDn] at hr1 heq
      rw [hold _ _ hn2] at hr2 heq
      exact (clash _ _ _ hg2 hc2 hr2 hr1 heq).elim
    · rw [hDn] at hr2 heq
      rw [hold _ _ hn1] at hr1 heq
      exact (clash _ _ _ hg1 hc1 hr1 hr2 heq.symm).elim
    · rw [hold _ _ hn1] at hr1 heq
      rw [hold _ _ hn2] at hr2 heq
      exact hI.inj s1 i1 B1 s2 i2 B2 hg1 hg2 hr1 hr2 heq
theorem sCut_sound {key : Nat} {T : TypeId} {x : V} {u : Value} {lo hi mx : Option (Option Int)} {ul uh um : Option Value} (hI : Inv F w A X h) (hr : RV w A X x u)
    (hlo : ∀ r, lo = some r → OptR r ul) (hhi : ∀ r, hi = some r → OptR r uh) (hmx : ∀ r, mx = some r → OptR r um) (hc : (sCut P key T x lo hi mx h).c) :
    ∃ r X', (Instr.sliceAt T u ul uh um).run P w = .ok r w ∧ Xle X X' ∧ Inv F w A X' (sCut P key T x lo hi mx h).h ∧ RV w A X' (sCut P key T x lo hi mx h).v r := by
  unfold sCut at hc ⊢
  split at hc
  · rename_i lo hi s i n e hs
    have hlo := hlo lo rfl
    have hhi := hhi hi rfl
    have hmx := hmx none rfl
    cases um with
    | some => exact hmx.elim
    | none =>
    cases hg : hget h s i with
    | none => simp [hg, bad] at hc
    | some B =>
      simp only [hg] at hc ⊢
      obtain ⟨h1, h2, h3, hfz, h4, h5, h6⟩ := hc
      obtain ⟨a, c, rfl, hN, hn', hv⟩ := hr.bsl_inv
      have hb := hI.blk s i B hg
      have hv' := hv (by rw [hb.hlen]; exact h3)
      have hz0 : 0 < P.cellsOf e := by omega
      generalize hl : (lo.getD 0).toNat = l at *
      generalize hm : (hi.getD n).toNat = m at *
      have hnc : n ≤ c := by
        rcases hb.mem with ⟨k1, k2⟩ | ⟨arr, cap, g1, g2, g3, _⟩
        · rw [k1] at hv'; injection hv' with e1 e2 e3; omega
        · rw [g2] at hv'; injection hv' with e1 e2 e3; omega
      have hrun := sliceAt_slice (P := P) (w := w) (slEl_some hs) hz0 (a := a) (len := n) (cap := c) hlo hhi h4 h5 (by omega)
      rw [hl, hm] at hrun
      have hw := hI.moveW hg hfz key (off := l) (k := m - l) (c := c - l) (a := if c = l then a else a.map (·.add (l * P.cellsOf e))) (by omega) (by
        rcases hb.mem with ⟨k1, k2⟩ | ⟨arr, cap, g1, g2, g3, g4, g5, g6, g7, g8⟩
        · rw [k1] at hv'
          injection hv' with e1 e2 e3
          subst e1
          refine .inl ⟨by split <;> rfl, by omega, by omega⟩
        · rw [g2] at hv'
          injection hv' with e1 e2 e3
          subst e1
          have hcap : (X.D s i).cap = cap := by unfold Hd.cap; rw [g2]
          subst e3
          refine .inr ⟨if c = l then (X.D s i).o else (X.D s i).o + l * P.cellsOf e, ?_, by unfold Hd.real; rw [g2]; simp, ?_, by omega, by omega, ?_⟩
          · split
            · rfl
            · simp only [Option.map_some, addr_add]
          · rw [hcap, ← h1]
            split
            · rename_i e; rw [e, Nat.sub_self, Nat.zero_mul]; omega
            · have : l * B.z + (c - l) * B.z = c * B.z := by rw [← Nat.add_mul]; congr 1; omega
              omega
          · by_cases hk : m - l = 0
            · exact .inl hk
            · right; rw [if_neg (by omega), h1])
      obtain ⟨X', x1, x2, x3, _⟩ := hw
      exact ⟨_, X', hrun, x1, x2, x3⟩
  · exact hc.elim
omit [Gls] in
theorem srcB_eq (h : Hp) (z : Nat) (x : V) : srcB h z x = srcV h z x := by cases x <;> rfl
omit [Gls] in
theorem takeV_sound {z : Nat} {x : V} {u : Value} {m : Nat} (hr : RV w A X x u) (hx : x.len = some m) {k : Nat} (hk : k ≤ m) (hl : (srcV h z (takeV k x)).2.1.length = k) (hc : (srcV h z (takeV k x)).1) :
    ∃ a c, u = .slice a m c ∧ RV w A X (takeV k x) (.slice a k c) := by
  obtain ⟨a, c, rfl⟩ := hr.len_inv hx
  refine ⟨a, c, rfl, ?_⟩
  cases x <;> simp only [V.len, Option.some.injEq, reduceCtorEq] at hx
  case nil => subst hx; have : k = 0 := by omega
              subst this; exact hr
  case emp => subst hx; have : k = 0 := by omega
              subst this; exact hr
  case sl z els =>
    subst hx
    have h' := hr.sl_inv
    simp only [takeV]
    cases h' with
    | sl0 => have : k = 0 := by simpa using hk
             subst this; exact .pure (.sl0 _ _ _)
    | sl _ _ b off cap us hcap hb hA hz hcell hv =>
      have hp := PV.sl (w := w) (A := A) z (els.take k) b off c us (by rw [List.length_take]; omega) hb hA (fun row hr => hz row (List.mem_of_mem_take hr))
        (fun e j row x he hj => by rw [List.getElem?_take] at he; split at he; exact hcell e j row x he hj; cases he) (fun e j row x he hj => by rw [List.getElem?_take] at he; split at he; exact hv e j row x he hj; cases he)
      rw [List.length_take, show min k els.length = k by omega] at hp
      exact .pure hp
  case bsl s i n =>
    subst hx
    simp only [takeV, srcV] at hl hc ⊢
    cases hg : hget h s i with
    | none => simp [hg] at hc
    | some B =>
      simp only [hg] at hl hc
      have : k = n := by omega
      subst this; exact hr
  case osl s i n off len cap =>
    subst hx
    simp only [takeV]
    obtain ⟨a', c', e, hcc, hN, hn', hv⟩ := hr.osl_inv
    injection e with e1 e2 e3
    subst e1 e3
    rw [show min k len = k by omega]
    exact .osl s i n off k cap a' c hcc hN hn' hv
structure Nws (w : World) (A : Nat → Prop) (X : Refs) (size : Nat) (els : List (List V)) (cl : Bool) (news : List Value) : Prop where
  rows : ∀ row ∈ els, row.length = size
  len : news.length = els.length * size
  cells : ∀ e j row c, els[e]? = some row → row[j]? = some c → ∃ u, news[e * size + j]? = some u ∧ RV w A X c u ∧ (cl = true → PV w A c u)
  one : ∀ u ∈ news, u.oneCell' = true
theorem Inv.writeIn (hI : Inv F w A X h) {s i : Nat} {B : Blk} (hB : hget h s i = some B) (hfz : B.fz = false) {els2 : List (List V)} {cl2 : Bool} {news : List Value} (hsrc : Nws w A X B.z els2 cl2 news) {off : Nat} (hne : B.els ≠ []) (hroom : off + els2.length ≤ B.els.length) :
    ∃ w', (storeCells ⟨(X.D s i).b, (X.D s i).o + off * B.z, none⟩ news).run P w = .ok () w' ∧ Later w A w' A ∧
      Inv F w' A X (hset h s i { B with els := B.els.take off ++ els2 ++ B.els.drop (off + els2.length), cl := B.cl && cl2 }) := by
  have hb := hI.blk s i B hB
  have hreal := hb.real hne
  rcases hb.mem with hm | ⟨arr, cap', h1, h2, h3, h4, h5, h6, h7, h8⟩
  · exact absurd hm.2 hne
  have hel : (off + els2.length) * B.z ≤ cap' * B.z := Nat.mul_le_mul_right _ (by omega)
  have hal : (X.D s i).o + off * B.z + news.length ≤ arr.toList.length := by have e1 : arr.toList.length = arr.size := Array.length_toList; have e2 := hsrc.len; rw [Nat.add_mul] at hel; omega
  have hr := run_storeCells_at P (X.D s i).b ((X.D s i).o + off * B.z) B.ty news 0 arr w h1 (by simpa using hal) hsrc.one
  simp only [Nat.add_zero] at hr
  refine ⟨_, hr, hI.turn hB (by simp [World.setRow]) rfl rfl rfl hfz hreal (fun b hbne => setRow_other w _ b _ hbne) ?_⟩
  intro hL
  have hlen : (B.els.take off ++ els2 ++ B.els.drop (off + els2.length)).length = B.els.length := by
    simp only [List.length_append, List.length_take, List.length_drop]; omega
  refine { hN := hb.hN, hz := hb.hz, hlen := by rw [hb.hlen]; exact hlen.symm, rows := ?_, mem := .inr ⟨_, cap', setRow_heap w _ arr _ B.ty _ h1, by simp only [hlen]; exact h2, by simp only [hlen]; exact h3, h4, ?_, ?_, h7, h8⟩ }
  · intro row hrow
    simp only [List.mem_append] at hrow
    rcases hrow with (hrow | hrow) | hrow
    · exact hb.rows row (List.mem_of_mem_take hrow)
    · exact hsrc.rows row hrow
    · exact hb.rows row (List.mem_of_mem_drop hrow)
  · simp only [List.size_toArray, List.length_append, List.length_take, List.length_drop, Array.length_toList]
    simp at hal; omega
  · intro e' j' row c he' hj'
    simp only at he'
    simp only [List.getElem?_toArray]
    rw [seg_get _ _ _ _ hal]
    rw [List.getElem?_append, List.getElem?_append] at he'
    simp only [List.length_append, List.length_take] at he'
    have hmin : min off B.els.length = off := by omega
    rw [hmin] at he'
    by_cases c1 : e' < off
    · rw [if_pos (by omega), if_pos c1, List.getElem?_take_of_lt c1] at he'
      obtain ⟨u, g1, g2, g3, g4⟩ := h6 e' j' row c he' hj'
      have hj2 : j' < B.z := by rw [← hb.rows row (List.mem_of_getElem? he')]; exact (List.getElem?_eq_some_iff.1 hj').1
      refine ⟨u, ?_, g2, g3.mono hL (Xle.refl X), fun hcl => (g4 (by simp at hcl; exact hcl.1)).mono hL⟩
      have := idx_lt c1 hj2
      rw [if_pos (by omega)]; simpa using g1
    · by_cases c2 : e' < off + els2.length
      · rw [if_pos c2, if_neg c1] at he'
        obtain ⟨u, g1, g3, g4⟩ := hsrc.cells _ j' row c he' hj'
        have hj2 : j' < B.z := by rw [← hsrc.rows row (List.mem_of_getElem? he')]; exact (List.getElem?_eq_some_iff.1 hj').1
        have k1 : off * B.z ≤ e' * B.z := Nat.mul_le_mul_right _ (by omega)
        have k2 : (e' - off) * B.z = e' * B.z - off * B.z := Nat.sub_mul ..
        have k3 : (e' - off) * B.z + j' < news.length := (List.getElem?_eq_some_iff.1 g1).1
        refine ⟨u, ?_, hsrc.one u (List.mem_of_getElem? g1), g3.mono hL (Xle.refl X), fun hcl => (g4 (by simp at hcl; exact hcl.2)).mono hL⟩
        rw [if_neg (by omega), if_pos (by omega), show (X.D s i).o + e' * B.z + j' - ((X.D s i).o + off * B.z) = (e' - off) * B.z + j' by omega]
        exact g1
      · rw [if_neg c2, List.getElem?_drop, show off + els2.length + (e' - (off + els2.length)) = e' by omega] at he'
        obtain ⟨u, g1, g2, g3, g4⟩ := h6 e' j' row c he' hj'
        have k1 : (off + els2.length) * B.z ≤ e' * B.z := Nat.mul_le_mul_right _ (by omega)
        rw [Nat.add_mul, ← hsrc.len] at k1
        refine ⟨u, ?_, g2, g3.mono hL (Xle.refl X), fun hcl => (g4 (by simp at hcl; exact hcl.1)).mono hL⟩
        rw [if_neg (by omega), if_neg (by omega)]; simpa using g1
theorem Inv.copyIn (hI : Inv F w A X h) {s i : Nat} {B : Blk} (hB : hget h s i = some B) (hfz : B.fz = false) {els2 : List (List V)} {cl2 : Bool} {news : List Value} {x : Value} (hsrc : Src P w A X B.z x els2 cl2 news) {off : Nat} (hne : B.els ≠ []) (hroom : off + els2.length ≤ B.els.length) :
    ∃ w', (storeCells ⟨(X.D s i).b, (X.D s i).o + off * B.z, none⟩ news).run P w = .ok () w' ∧ Later w A w' A ∧
      Inv F w' A X (hset h s i { B with els := B.els.take off ++ els2 ++ B.els.drop (off + els2.length), cl := B.cl && cl2 }) :=
  hI.writeIn hB hfz ⟨hsrc.rows, hsrc.len, hsrc.cells, hsrc.one⟩ hne hroom
theorem sCopy_sound {T T2 ty : TypeId} {d x : V} {ud ux : Value} (hI : Inv F w A X h) (hd : RV w A X d ud) (hx : RV w A X x ux) (hc : (sCopy P T d x h).c) :
    ∃ r w', (Builtin.copy_ #[T, T2] ty #[ud, ux]).run P w = .ok r w' ∧ Later w A w' A ∧ Inv F w' A X (sCopy P T d x h).h ∧ RV w' A X (sCopy P T d x h).v r := by
  unfold sCopy at hc ⊢
  split at hc
  · rename_i e s0 i0 n0 off len cap m hs hm
    cases hg : hget h s0 i0 with
    | none => simp [hg, bad] at hc
    | some B =>
      simp only [hg, srcB_eq] at hc ⊢
      obtain ⟨c1, c2, c3, c4, c5, c6, c7, c8, c9, c10⟩ := hc
      obtain ⟨i, zv, hi, hsz, hz, hzc, hzs⟩ := zc_some (by omega) c5
      obtain ⟨a', c', rfl, hr'⟩ := takeV_sound (h := h) (z := B.z) hx hm (Nat.min_le_left m len) c2 c1
      obtain ⟨news, hsrc⟩ := srcV_sound (P := P) hI c4 hr' c1
      obtain ⟨a, c'', rfl, hcc, hN, hn', hv⟩ := hd.osl_inv
      have hb := hI.blk s0 i0 B hg
      obtain ⟨hv1, hv2⟩ := hv (by rw [hb.hlen]; exact c8)
      rw [hb.hz] at hv1
      subst hv1
      have hu := slEl_some hs
      obtain ⟨w', g1, g2, g3⟩ := hI.copyIn (P := P) hg c7 hsrc (off := off) c9 (by rw [c2]; omega)
      have hrun := hsrc.run
      rw [c2] at hrun g3
      refine ⟨.int .i64 (min m len : Nat), w', ?_, g2, g3, .pure (.int _ _)⟩
      have hsz2 : i.size = B.z := by rw [hsz, c3]
      have hf : (Builtin.firstCells i.size (min m len) (.slice a' m c')).run P w = .ok news.toArray w := by
        rw [hsz2]; cases a' <;> exact hrun
      have e0 : m.min len = min m len := rfl
      simp [Builtin.copy_, run_underlying hu, sizeOf, typeInfo, hi, Builtin.lenOf, e0, hf, g1, goInt]
  · exact hc.elim
theorem sClear_sound {T ty : TypeId} {x : V} {u : Value} (hI : Inv F w A X h) (hx : RV w A X x u) (hc : (sClear P T x h).c) :
    ∃ r w', (Builtin.clear_ #[T] ty #[u]).run P w = .ok r w' ∧ Later w A w' A ∧ Inv F w' A X (sClear P T x h).h ∧ RV w' A X (sClear P T x h).v r := by
  unfold sClear at hc ⊢
  split at hc
  · rename_i e s i n off len cap hs
    cases hg : hget h s i with
    | none => simp [hg, bad] at hc
    | some B =>
      simp only [hg] at hc ⊢
      obtain ⟨c1, c2, c3, c4, c5, c6, c7, c8, c9⟩ := hc
      obtain ⟨ti, zv, hi, hsz, hz, hzc, hzs⟩ := zc_some (by omega) c3
      obtain ⟨a, c, rfl, hcc, hN, hn', hv⟩ := hx.osl_inv
      have hb := hI.blk s i B hg
      obtain ⟨hv1, hv2⟩ := hv (by rw [hb.hlen]; exact c6)
      rw [hb.hz] at hv1
      subst hv1
      have hu := slEl_some hs
      have hzl : zv.cells.size = B.z := by rw [hzs, c1]
      have hget : ∀ e1 j, e1 < len → j < zv.cells.size → (Builtin.zeroCells zv.cells len).toList[e1 * B.z + j]? = zv.cells[j]? := by
        intro e1 j h1 h2
        have hlt : e1 * B.z + j < len * B.z := by
          have : (e1 + 1) * B.z ≤ len * B.z := Nat.mul_le_mul_right _ h1
          rw [Nat.add_mul] at this; omega
        simp only [Builtin.zeroCells, Array.getElem?_toList]
        rw [← hzl] at hlt ⊢
        have hm : (e1 * zv.cells.size + j) % zv.cells.size = j := by rw [Nat.mul_comm, Nat.mul_add_mod, Nat.mod_eq_of_lt h2]
        simp [hlt, hm, h2]
      have hlen : (Builtin.zeroCells zv.cells len).toList.length = len * B.z := by simp [Builtin.zeroCells, hzl]
      have hok := ofVal1_cells (w := w) (A := A) (X := X) (zs := zv.cells) (by rw [← hzc]; exact c4)
      rw [← hzc] at hok
      have hn : Nws w A X B.z (List.replicate len (zc P e)) true (Builtin.zeroCells zv.cells len).toList := by
        refine ⟨fun row hr => by rw [List.eq_of_mem_replicate hr, c3, c1], by rw [hlen, List.length_replicate], fun e1 j row c he hj => ?_, fun u hu' => ?_⟩
        · have hlt : e1 < len := by have := (List.getElem?_eq_some_iff.1 he).1; simpa using this
          have hrow : row = zc P e := List.eq_of_mem_replicate (List.mem_of_getElem? he)
          subst hrow
          have hjl : j < zv.cells.size := by have := (List.getElem?_eq_some_iff.1 hj).1; omega
          obtain ⟨u, k1, k2, k3⟩ := hok.2 j c hj
          refine ⟨u, by rw [hget e1 j hlt hjl]; exact k1, k3, fun _ => ?_⟩
          rw [hzc] at hj
          obtain ⟨x, hx, hp⟩ := ofVal1_pv (w := w) (A := A) hj
          have hx' : zv.cells[j]? = some x := by simpa using hx
          rw [k1] at hx'; cases hx'; exact hp
        · obtain ⟨k, hk, hke⟩ := List.getElem_of_mem hu'
          rw [hlen] at hk
          have e1 : k / B.z < len := Nat.div_lt_of_lt_mul (by rw [Nat.mul_comm]; exact hk)
          have e2 : k % B.z < zv.cells.size := by rw [hzl]; exact Nat.mod_lt _ c2
          have := hget (k / B.z) (k % B.z) e1 e2
          rw [Nat.div_add_mod' k B.z, List.getElem?_eq_getElem (by rw [hlen]; exact hk), hke, Array.getElem?_eq_getElem e2] at this
          have hjz : (k % B.z) < (zc P e).length := by rw [c3, ← hzs]; exact e2
          obtain ⟨u', k1, k2, _⟩ := hok.2 (k % B.z) _ (List.getElem?_eq_getElem hjz)
          rw [Array.getElem?_eq_getElem e2] at k1
          cases k1
          cases this
          exact k2
      obtain ⟨w', g1, g2, g3⟩ := hI.writeIn (P := P) hg c5 hn (off := off) c7 (by rw [List.length_replicate]; exact c8)
      rw [List.length_replicate, Bool.and_true] at g3
      refine ⟨.tuple #[], w', ?_, g2, g3, .pure (.tup [] #[] rfl (by simp))⟩
      obtain ⟨m, rfl⟩ : ∃ m, len = m + 1 := ⟨len - 1, by omega⟩
      simp [Builtin.clear_, run_underlying hu, zeroValue, typeInfo, hi, hz, g1]
  · exact hc.elim
end
end Go.Sx
