/- Appending to an owned slice. No conditions. -/
import Derived.Test.YtomgmojjdgiieaaGreatP03
set_option linter.unusedSimpArgs false
set_option linter.unusedVariables false
set_option linter.unusedSectionVars false
namespace Go.Sx
open Go.RowKit
variable [Gls]
section
variable {F : Fr} {w : World} {A : Nat → Prop} {X : Refs} {h : Hp}
omit [Gls] in
theorem run_append_src_room (P : Program) (t ty e : TypeId) (i : TypeInfo) (ht : P.underlying t = some (.slice e)) (hi : P.info? e = some i) (g o n cap : Nat) (cur : Array Value) (hg : w.heap[g]? = some (.cells cur e (0, 0)))
    {x : Value} {els : List (List V)} {cl : Bool} {news : List Value} (hs : Src P w A X i.size x els cl news) (hroom : n + els.length ≤ cap) (hfit : o + n * i.size + news.length ≤ cur.size) :
    (Builtin.append_ #[t, t] ty #[.slice (some ⟨g, o, none⟩) n cap, x]).run P w =
      .ok (.slice (some ⟨g, o, none⟩) (n + els.length) cap) (w.setRow g (cur.toList.take (o + n * i.size) ++ news ++ cur.toList.drop (o + n * i.size + news.length)).toArray) := by
  obtain ⟨a, c, rfl⟩ := hs.shape
  have hf := hs.run
  have hst := run_storeCells_at P g (o + n * i.size) e news 0 cur w hg (by simpa using hfit) hs.one
  simp only [Nat.add_zero] at hst
  simp [Builtin.append_, run_underlying ht, sizeOf, typeInfo, hi, Builtin.lenOf, hroom, hf, addr_add, hst]
omit [Gls] in
theorem run_append_src_nil0 (P : Program) (t ty e : TypeId) (i : TypeInfo) (ht : P.underlying t = some (.slice e)) (hi : P.info? e = some i)
    {x : Value} {els : List (List V)} {cl : Bool} {news : List Value} (hs : Src P w A X i.size x els cl news) (h0 : els.length = 0) :
    (Builtin.append_ #[t, t] ty #[.slice none 0 0, x]).run P w = .ok (.slice none 0 0) w := by
  obtain ⟨a, c, rfl⟩ := hs.shape
  have hf := hs.run
  rw [h0] at hf ⊢
  simp [Builtin.append_, run_underlying ht, sizeOf, typeInfo, hi, Builtin.lenOf, hf]
omit [Gls] in
theorem run_append_src_emp0 (P : Program) (t ty e : TypeId) (i : TypeInfo) (ht : P.underlying t = some (.slice e)) (hi : P.info? e = some i) (b : Addr)
    {x : Value} {els : List (List V)} {cl : Bool} {news : List Value} (hs : Src P w A X i.size x els cl news) (h0 : els.length = 0) :
    (Builtin.append_ #[t, t] ty #[.slice (some b) 0 0, x]).run P w = .ok (.slice (some b) 0 0) w := by
  obtain ⟨a, c, rfl⟩ := hs.shape
  have hf := hs.run
  have hn : news = [] := List.eq_nil_of_length_eq_zero (by rw [hs.len, h0, Nat.zero_mul])
  subst hn
  rw [h0] at hf ⊢
  simp [Builtin.append_, run_underlying ht, sizeOf, typeInfo, hi, Builtin.lenOf, hf, storeCells]
omit [Gls] in
theorem run_append_src_nil (P : Program) (t ty e : TypeId) (i : TypeInfo) (z : Value) (ht : P.underlying t = some (.slice e)) (hi : P.info? e = some i) (hz : i.zero = some z)
    {x : Value} {els : List (List V)} {cl : Bool} {news : List Value} (hs : Src P w A X i.size x els cl news) (h0 : 0 < els.length) (h63 : (els.length : Int) ≤ 9223372036854775807) (h48 : els.length * i.bytes ≤ 281474976710656) :
    (Builtin.append_ #[t, t] ty #[.slice none 0 0, x]).run P w =
      .ok (.slice (some ⟨w.heap.size, 0, none⟩) els.length (grownCap w els.length 0 e)) (w.drew.alloc (.cells (news.toArray ++ Builtin.zeroCells z.cells (grownCap w els.length 0 e - els.length)) e)) := by
  obtain ⟨a, c, rfl⟩ := hs.shape
  have hn : ¬ els.length = 0 := by omega
  have hn' : ¬ els = [] := fun hh => by rw [hh] at h0; simp at h0
  have h63' : ¬ (9223372036854775807 < (els.length : Int)) := by omega
  have h48' : ¬ (281474976710656 < Builtin.nextslicecap els.length 0 * i.bytes) := by rw [nextslicecap_zero h0]; omega
  have hf := hs.run'
  simp [Builtin.append_, run_underlying ht, sizeOf, typeInfo, zeroValue, hi, hz, Builtin.lenOf, hn', h63', h48', Question.forced, run_firstCells_none, hf, newRow, grownCap]
omit [Gls] in
theorem run_append_src_grow (P : Program) (t ty e : TypeId) (i : TypeInfo) (z : Value) (ht : P.underlying t = some (.slice e)) (hi : P.info? e = some i) (hz : i.zero = some z)
    (b : Addr) (n cap : Nat) (olds : List Value) (hlo : olds.length = n * i.size) (holds : ∀ j v, olds[j]? = some v → w.cell? (b.add j) = some v)
    {x : Value} {els : List (List V)} {cl : Bool} {news : List Value} (hs : Src P w A X i.size x els cl news)
    (hg : cap < n + els.length) (h63 : ((n + els.length : Nat) : Int) ≤ 9223372036854775807) (hfit : Builtin.nextslicecap (n + els.length) cap * i.bytes ≤ 281474976710656) :
    (Builtin.append_ #[t, t] ty #[.slice (some b) n cap, x]).run P w =
      .ok (.slice (some ⟨w.heap.size, 0, none⟩) (n + els.length) (grownCap w (n + els.length) cap e))
        (w.drew.alloc (.cells (olds.toArray ++ news.toArray ++ Builtin.zeroCells z.cells (grownCap w (n + els.length) cap e - (n + els.length))) e)) := by
  obtain ⟨a, c, rfl⟩ := hs.shape
  have hn : ¬ (n + els.length ≤ cap) := by omega
  have h63' : ¬ (9223372036854775807 < ((n : Int) + (els.length : Int))) := by omega
  have h48' : ¬ (281474976710656 < Builtin.nextslicecap (n + els.length) cap * i.bytes) := by omega
  have hf := hs.run'
  have hfo := run_firstCells_some (P := P) w.drew i.size n b n cap olds hlo (by simpa using holds)
  simp [Builtin.append_, run_underlying ht, sizeOf, typeInfo, zeroValue, hi, hz, Builtin.lenOf, hn, h63', h48', Question.forced, hf, hfo, newRow, grownCap]
  congr 2
  apply Array.ext'
  simp [List.append_assoc]
theorem Inv.drew (hI : Inv F w A X h) : Later w A w.drew A ∧ Inv F w.drew A X h := by
  have hL : Later w A w.drew A := ⟨Nat.le_refl _, fun _ _ hA => ⟨rfl, hA⟩⟩
  refine ⟨hL, { gl := hI.gl.mono hL, abd := hI.abd, aold := hI.aold, akeep := hI.akeep, os := hI.os, tape := hI.tape, output := hI.output, size := hI.size, same := hI.same, xle := hI.xle, nb := hI.nb, mi := hI.mi.step (fun _ => rfl) rfl rfl (fun _ _ _ h => h) (fun _ _ _ _ h => h), blk := ?_, inj := hI.inj }⟩
  intro s i B hB
  have ho := hI.blk s i B hB
  refine { hN := ho.hN, hz := ho.hz, hlen := ho.hlen, rows := ho.rows, mem := ?_ }
  rcases ho.mem with hm | ⟨arr, cap, h1, h2, h3, h4, h5, h6, h7, h8⟩
  · exact .inl hm
  · refine .inr ⟨arr, cap, h1, h2, h3, h4, h5, ?_, h7, h8⟩
    intro e j row c he hj
    obtain ⟨u, g1, g2, g3, g4⟩ := h6 e j row c he hj
    exact ⟨u, g1, g2, g3.mono hL (Xle.refl X), fun hcl => (g4 hcl).mono hL⟩
omit [Gls] in
theorem idx_lt {e j z n : Nat} (he : e < n) (hj : j < z) : e * z + j < n * z := by
  have : (e + 1) * z ≤ n * z := Nat.mul_le_mul_right z he
  rw [Nat.add_mul] at this; omega
theorem Inv.append (P : Program) (hI : Inv F w A X h) {s i : Nat} {B : Blk} (hB : hget h s i = some B) (hfz : B.fz = false) {T ty e : TypeId} {ti : TypeInfo} {zv : Value} (ht : P.underlying T = some (.slice e)) (hi : P.info? e = some ti)
    (hzv : ti.zero = some zv) (hty : B.ty = e) (hzz : ti.size = B.z) (hz0 : 0 < B.z) (hzs : zv.cells.size = B.z) {x : Value} {els2 : List (List V)} {cl2 : Bool} {news : List Value} (hsrc : Src P w A X B.z x els2 cl2 news)
    (hbytes : (B.els.length + els2.length) * ti.bytes ≤ 140737488355328) (h63 : B.els.length + els2.length ≤ maxLen) :
    ∃ v' w' A' X', (Builtin.append_ #[T, T] ty #[(X.D s i).v, x]).run P w = .ok v' w' ∧ Later w A w' A' ∧ Xle X X' ∧
      Inv F w' A' X' (hset h s i { B with els := B.els ++ els2, cl := B.cl && cl2 }) ∧ RV w' A' X' (.bsl s i (B.els.length + els2.length)) v' := by
  have hb := hI.blk s i B hB
  have h63' : ((B.els.length + els2.length : Nat) : Int) ≤ 9223372036854775807 := by simp only [maxLen] at h63; omega
  subst hty
  rw [← hzz] at hsrc
  have newcells : ∀ (old : List Value) (tail : Array Value), old.length = B.els.length * B.z →
      (∀ e j row c, B.els[e]? = some row → row[j]? = some c → ∃ u, old[e * B.z + j]? = some u ∧ u.oneCell' = true ∧ RV w A X c u ∧ (B.cl = true → PV w A c u)) →
      ∀ e j row c, (B.els ++ els2)[e]? = some row → row[j]? = some c → ∃ u, (old ++ news ++ tail.toList)[e * B.z + j]? = some u ∧ u.oneCell' = true ∧ RV w A X c u ∧ ((B.cl && cl2) = true → PV w A c u) := by
    intro old tail hol hold e j row c he hj
    rcases rows_get els2 he with ⟨hlt, he'⟩ | ⟨hge, he'⟩
    · obtain ⟨u, g1, g2, g3, g4⟩ := hold e j row c he' hj
      refine ⟨u, ?_, g2, g3, fun hcl => g4 (by simp at hcl; exact hcl.1)⟩
      have : e * B.z + j < old.length := (List.getElem?_eq_some_iff.1 g1).1
      rw [List.append_assoc, List.getElem?_append_left this]; exact g1
    · obtain ⟨u, g1, g3, g4⟩ := hsrc.cells _ j row c he' hj
      rw [hzz] at g1
      refine ⟨u, ?_, hsrc.one u (List.mem_of_getElem? g1), g3, fun hcl => g4 (by simp at hcl; exact hcl.2)⟩
      have hidx : e * B.z + j = old.length + ((e - B.els.length) * B.z + j) := by
        rw [hol, Nat.sub_mul]
        have := Nat.mul_le_mul_right B.z hge
        omega
      have hlt : (e - B.els.length) * B.z + j < news.length := (List.getElem?_eq_some_iff.1 g1).1
      rw [List.append_assoc, hidx, List.getElem?_append_right (by omega), List.getElem?_append_left (by omega)]
      rw [show old.length + ((e - B.els.length) * B.z + j) - old.length = (e - B.els.length) * B.z + j by omega]
      exact g1
  have newrows : ∀ row ∈ B.els ++ els2, row.length = B.z := by
    intro row hr
    rcases List.mem_append.1 hr with hr | hr
    · exact hb.rows row hr
    · rw [hsrc.rows row hr, hzz]
  have fresh : ∀ (cap : Nat) (old : List Value), cap ≤ maxLen → B.els.length + els2.length ≤ cap → (X.D s i).len < B.els.length + els2.length → old.length = B.els.length * B.z →
      (∀ e j row c, B.els[e]? = some row → row[j]? = some c → ∃ u, old[e * B.z + j]? = some u ∧ u.oneCell' = true ∧ RV w A X c u ∧ (B.cl = true → PV w A c u)) →
      ∃ A' X', Later w A (w.drew.alloc (.cells (old.toArray ++ news.toArray ++ Builtin.zeroCells zv.cells (cap - (B.els.length + els2.length))) B.ty)) A' ∧ Xle X X' ∧
        Inv F (w.drew.alloc (.cells (old.toArray ++ news.toArray ++ Builtin.zeroCells zv.cells (cap - (B.els.length + els2.length))) B.ty)) A' X' (hset h s i { B with els := B.els ++ els2, cl := B.cl && cl2 }) ∧
        RV (w.drew.alloc (.cells (old.toArray ++ news.toArray ++ Builtin.zeroCells zv.cells (cap - (B.els.length + els2.length))) B.ty)) A' X' (.bsl s i (B.els.length + els2.length)) (.slice (some ⟨w.heap.size, 0, none⟩) (B.els.length + els2.length) cap) := by
    intro cap old hcm hcap hlen hol hold
    have hcellsz : (old.toArray ++ news.toArray ++ Builtin.zeroCells zv.cells (cap - (B.els.length + els2.length))).size = cap * B.z := by
      simp only [Array.size_append, List.size_toArray, size_zeroCells, hzs, hol, hsrc.len, hzz, ← Nat.add_mul]
      congr 1; omega
    have ht := hI.turn2 (B' := { B with els := B.els ++ els2, cl := B.cl && cl2 }) (w' := w.drew.alloc (.cells (old.toArray ++ news.toArray ++ Builtin.zeroCells zv.cells (cap - (B.els.length + els2.length))) B.ty))
      (A' := fun b => A b ∨ b = w.heap.size) (d' := { b := w.heap.size, z := B.z, len := B.els.length + els2.length, v := .slice (some ⟨w.heap.size, 0, none⟩) (B.els.length + els2.length) cap }) hB (by simp) rfl rfl rfl hfz
      (fun b hlt _ => Below.heap_alloc w.drew _ b hlt) (fun b hA => .inl hA) (fun b hA => by rcases hA with hA | rfl; exact .inl hA; exact .inr ⟨Nat.le_refl _, by simp⟩) (.inr hlen) (fun _ => .inr (Nat.le_refl _)) ?_
    · refine ⟨_, _, ht.1, ht.2.1, ht.2.2, ?_⟩
      refine .bsl s i _ _ _ (by simpa [Refs.put] using hb.hN) (by rw [Refs.put_same]; exact Nat.le_refl _) (fun _ => by rw [Refs.put_same])
    · intro hL hX
      refine { hN := by simpa [Refs.put] using hb.hN, hz := by rw [Refs.put_same], hlen := by rw [Refs.put_same]; simp, rows := newrows, mem := .inr ⟨_, cap, ?_, by rw [Refs.put_same]; simp, by simpa using hcap, hcm, by rw [Refs.put_same, hcellsz, Nat.zero_add]; exact Nat.le_refl _, ?_, ?_, ?_⟩ }
      · rw [Refs.put_same]; exact heap_alloc_new w.drew _
      · intro e j row c he hj
        obtain ⟨u, g1, g2, g3, g4⟩ := newcells old (Builtin.zeroCells zv.cells (cap - (B.els.length + els2.length))) hol hold e j row c he hj
        refine ⟨u, ?_, g2, g3.mono hL hX, fun hcl => (g4 hcl).mono hL⟩
        rw [Refs.put_same, ← Array.getElem?_toList]
        simpa using g1
      · rw [show ({ B with els := B.els ++ els2, cl := B.cl && cl2 } : Blk).fz = false from hfz]; simp
      · intro _; rw [Refs.put_same]; exact ⟨.inr rfl, .inr hI.size⟩
  rcases hb.mem with ⟨hv, hels⟩ | ⟨arr, cap, h1, h2, h3, h4, h5, h6, h7, h8⟩
  · have hlen0 : (X.D s i).len = 0 := by rw [hb.hlen, hels]; rfl
    by_cases hm : els2.length = 0
    · have he2 : els2 = [] := List.eq_nil_of_length_eq_zero hm
      subst he2
      refine ⟨.slice none 0 0, w, A, X, ?_, Later.refl w A, Xle.refl X, ?_, ?_⟩
      · rw [hv]; exact run_append_src_nil0 P T ty _ ti ht hi hsrc rfl
      · have hz : hset h s i { B with els := B.els ++ [], cl := B.cl && cl2 } = hset h s i { B with cl := B.cl && cl2 } := by rw [List.append_nil]
        rw [hz]
        have hh := (hI.turn2 (B' := { B with cl := B.cl && cl2 }) (d' := X.D s i) (A' := A) hB (Nat.le_refl _) rfl rfl rfl hfz (fun _ _ _ => rfl) (fun _ hA => hA) (fun _ hA => .inl hA) (.inl rfl) (fun hr => absurd hv hr) (by
          intro _ _
          refine { hN := by simpa [Refs.put] using hb.hN, hz := by rw [Refs.put_same]; exact hb.hz, hlen := by rw [Refs.put_same]; exact hb.hlen, rows := hb.rows, mem := .inl ⟨by rw [Refs.put_same]; exact hv, hels⟩ })).2.2
        have hX : X.put s i (X.D s i) = X := by
          unfold Refs.put
          congr 1
          funext s' i'
          split
          · rename_i hc; rw [hc.1, hc.2]
          · rfl
        rw [hX] at hh; exact hh
      · rw [hels]
        exact .bsl s i 0 none 0 hb.hN (Nat.zero_le _) (fun _ => hv.symm)
    · have hr := run_append_src_nil P T ty _ ti zv ht hi hzv hsrc (by omega) (by omega) (by have := hbytes; rw [hels] at this; simp at this; omega)
      rw [hels] at hbytes h63 fresh
      simp only [List.length_nil, Nat.zero_add, Nat.zero_mul, List.nil_append] at fresh h63
      obtain ⟨A', X', f1, f2, f3, f4⟩ := fresh (grownCap w els2.length 0 B.ty) [] (grownCap_le_maxLen w _ 0 B.ty h63) (grownCap_ge w _ 0 B.ty) (by omega) (by simp) (by intro e j row c he; simp at he)
      simp only [List.toArray, Array.empty_append] at f1 f3 f4
      refine ⟨_, _, A', X', by rw [hv]; exact hr, ?_, f2, ?_, ?_⟩
      · simpa using f1
      · rw [hels]; simpa using f3
      · rw [hels]; simpa using f4
  · have hlen0 : (X.D s i).len = B.els.length := hb.hlen
    have hel : B.els.length * B.z ≤ cap * B.z := Nat.mul_le_mul_right _ h3
    by_cases hroom : B.els.length + els2.length ≤ cap
    · have hfit : (X.D s i).o + B.els.length * ti.size + news.length ≤ arr.size := by
        have := Nat.mul_le_mul_right B.z hroom
        rw [Nat.add_mul] at this
        rw [hsrc.len, hzz]; omega
      have hr := run_append_src_room P T ty _ ti ht hi (X.D s i).b (X.D s i).o B.els.length cap arr h1 hsrc hroom hfit
      rw [hzz] at hr hfit
      have hal : (X.D s i).o + B.els.length * B.z + news.length ≤ arr.toList.length := by simpa using hfit
      have hreal : (X.D s i).real := by unfold Hd.real; rw [h2]; simp
      have hlenor : ({ b := (X.D s i).b, z := B.z, len := B.els.length + els2.length, v := .slice (some ⟨(X.D s i).b, (X.D s i).o, none⟩) (B.els.length + els2.length) cap, o := (X.D s i).o } : Hd) = X.D s i ∨ (X.D s i).len < B.els.length + els2.length := by
        by_cases hm : els2.length = 0
        · left
          have hz' := hb.hz
          rw [hm, Nat.add_zero]
          cases hd : X.D s i with
          | mk b z len v o =>
            rw [hd] at h2 hlen0 hz'
            simp only at h2 hlen0 hz'
            subst hlen0 hz' h2
            rfl
        · right; omega
      have ht := hI.turn2 (B' := { B with els := B.els ++ els2, cl := B.cl && cl2 }) (w' := w.setRow (X.D s i).b (arr.toList.take ((X.D s i).o + B.els.length * B.z) ++ news ++ arr.toList.drop ((X.D s i).o + B.els.length * B.z + news.length)).toArray)
        (A' := A) (d' := { b := (X.D s i).b, z := B.z, len := B.els.length + els2.length, v := .slice (some ⟨(X.D s i).b, (X.D s i).o, none⟩) (B.els.length + els2.length) cap, o := (X.D s i).o }) hB (by simp) rfl rfl rfl hfz
        (fun b _ hne => setRow_other w _ b _ (hne hreal)) (fun _ hA => hA) (fun _ hA => .inl hA) hlenor (fun _ => .inl ⟨hreal, rfl⟩) ?_
      · refine ⟨_, _, _, _, by rw [h2]; exact hr, ht.1, ht.2.1, ht.2.2, ?_⟩
        exact .bsl s i _ _ _ (by simpa [Refs.put] using hb.hN) (by rw [Refs.put_same]; exact Nat.le_refl _) (fun _ => by rw [Refs.put_same])
      · intro hL hX
        refine { hN := by simpa [Refs.put] using hb.hN, hz := by rw [Refs.put_same], hlen := by rw [Refs.put_same]; simp, rows := newrows, mem := .inr ⟨(arr.toList.take ((X.D s i).o + B.els.length * B.z) ++ news ++ arr.toList.drop ((X.D s i).o + B.els.length * B.z + news.length)).toArray, cap, ?_, by rw [Refs.put_same]; simp, by simpa using hroom, h4, ?_, ?_, ?_, ?_⟩ }
        · rw [Refs.put_same]; exact setRow_heap w _ arr _ B.ty _ h1
        · rw [Refs.put_same]
          simp only [List.size_toArray, List.length_append, List.length_take, List.length_drop, Array.length_toList]
          simp at hal; omega
        · intro e j row c he hj
          rw [Refs.put_same]
          have hold : ∀ e j row c, B.els[e]? = some row → row[j]? = some c → ∃ u, ((arr.toList.drop (X.D s i).o).take (B.els.length * B.z))[e * B.z + j]? = some u ∧ u.oneCell' = true ∧ RV w A X c u ∧ (B.cl = true → PV w A c u) := by
            intro e j row c he hj
            obtain ⟨u, g1, g2, g3, g4⟩ := h6 e j row c he hj
            refine ⟨u, ?_, g2, g3, g4⟩
            have hjz : j < B.z := by rw [← hb.rows row (List.mem_of_getElem? he)]; exact (List.getElem?_eq_some_iff.1 hj).1
            rw [List.getElem?_take_of_lt (idx_lt (List.getElem?_eq_some_iff.1 he).1 hjz), List.getElem?_drop, ← Nat.add_assoc]
            simpa using g1
          obtain ⟨u, g1, g2, g3, g4⟩ := newcells _ (arr.toList.drop ((X.D s i).o + B.els.length * B.z + news.length)).toArray (by rw [List.length_take, List.length_drop, Array.length_toList]; simp at hal; omega) hold e j row c he hj
          refine ⟨u, ?_, g2, g3.mono hL hX, fun hcl => (g4 hcl).mono hL⟩
          have hsplit : arr.toList.take ((X.D s i).o + B.els.length * B.z) = arr.toList.take (X.D s i).o ++ (arr.toList.drop (X.D s i).o).take (B.els.length * B.z) := List.take_add ..
          simp only [List.getElem?_toArray]
          rw [hsplit, List.append_assoc, List.append_assoc, List.getElem?_append_right (by rw [List.length_take]; omega), List.length_take, ← List.append_assoc]
          have hmin : min (X.D s i).o arr.toList.length = (X.D s i).o := by omega
          rw [hmin, show (X.D s i).o + e * B.z + j - (X.D s i).o = e * B.z + j by omega]
          simpa using g1
        · rw [show ({ B with els := B.els ++ els2, cl := B.cl && cl2 } : Blk).fz = false from hfz]; simp
        · intro _; rw [Refs.put_same]; exact h8 hfz
    · have holds : ∀ j v, ((arr.toList.drop (X.D s i).o).take (B.els.length * ti.size))[j]? = some v → w.cell? ((⟨(X.D s i).b, (X.D s i).o, none⟩ : Addr).add j) = some v := by
        intro j v hj
        rw [addr_add]
        have hlt : j < B.els.length * ti.size := by
          have := (List.getElem?_eq_some_iff.1 hj).1; rw [List.length_take] at this; omega
        rw [List.getElem?_take_of_lt hlt, List.getElem?_drop] at hj
        have hj' : arr[(X.D s i).o + j]? = some v := by simpa using hj
        simp [World.cell?, h1, hj']
      have hr := run_append_src_grow P T ty _ ti zv ht hi hzv ⟨(X.D s i).b, (X.D s i).o, none⟩ B.els.length cap ((arr.toList.drop (X.D s i).o).take (B.els.length * ti.size)) (by rw [List.length_take, List.length_drop, Array.length_toList, hzz]; omega) holds hsrc (by omega) h63' (growslice_fits (by omega) hbytes)
      have hold : ∀ e j row c, B.els[e]? = some row → row[j]? = some c → ∃ u, ((arr.toList.drop (X.D s i).o).take (B.els.length * ti.size))[e * B.z + j]? = some u ∧ u.oneCell' = true ∧ RV w A X c u ∧ (B.cl = true → PV w A c u) := by
        intro e j row c he hj
        obtain ⟨u, g1, g2, g3, g4⟩ := h6 e j row c he hj
        refine ⟨u, ?_, g2, g3, g4⟩
        have hjz : j < B.z := by rw [← hb.rows row (List.mem_of_getElem? he)]; exact (List.getElem?_eq_some_iff.1 hj).1
        rw [hzz, List.getElem?_take_of_lt (idx_lt (List.getElem?_eq_some_iff.1 he).1 hjz), List.getElem?_drop, ← Nat.add_assoc]
        simpa using g1
      obtain ⟨A', X', f1, f2, f3, f4⟩ := fresh (grownCap w (B.els.length + els2.length) cap B.ty) _ (grownCap_le_maxLen w _ cap B.ty h63) (grownCap_ge w _ cap B.ty) (by omega) (by rw [List.length_take, List.length_drop, Array.length_toList, hzz]; omega) hold
      exact ⟨_, _, A', X', by rw [h2]; exact hr, f1, f2, f3, f4⟩
theorem Inv.appendIn (P : Program) (hI : Inv F w A X h) {s i : Nat} {B : Blk} (hB : hget h s i = some B) (hfz : B.fz = false) {T ty e : TypeId} {ti : TypeInfo} (ht : P.underlying T = some (.slice e)) (hi : P.info? e = some ti)
    (hty : B.ty = e) (hzz : ti.size = B.z) {x : Value} {els2 : List (List V)} {cl2 : Bool} {news : List Value} (hsrc : Src P w A X B.z x els2 cl2 news) {len cap c : Nat} (hcc : cap ≤ c) (hne : B.els ≠ []) (hroom : len + els2.length ≤ cap) (hcap : cap ≤ B.els.length) :
    ∃ w', (Builtin.append_ #[T, T] ty #[.slice (some ⟨(X.D s i).b, (X.D s i).o, none⟩) len c, x]).run P w = .ok (.slice (some ⟨(X.D s i).b, (X.D s i).o, none⟩) (len + els2.length) c) w' ∧ Later w A w' A ∧
      Inv F w' A X (hset h s i { B with els := B.els.take len ++ els2 ++ B.els.drop (len + els2.length), cl := B.cl && cl2 }) := by
  have hb := hI.blk s i B hB
  have hreal := hb.real hne
  rcases hb.mem with hm | ⟨arr, cap', h1, h2, h3, h4, h5, h6, h7, h8⟩
  · exact absurd hm.2 hne
  subst hty
  have hel : (len + els2.length) * B.z ≤ cap' * B.z := Nat.mul_le_mul_right _ (by omega)
  have hal : (X.D s i).o + len * B.z + news.length ≤ arr.toList.length := by have e1 : arr.toList.length = arr.size := Array.length_toList; have e2 := hsrc.len; rw [Nat.add_mul] at hel; omega
  have hsrc' := hsrc
  rw [← hzz] at hsrc'
  have hr := run_append_src_room P T ty _ ti ht hi (X.D s i).b (X.D s i).o len c arr h1 hsrc' (by omega) (by rw [hzz]; simpa using hal)
  rw [hzz] at hr
  refine ⟨_, hr, hI.turn hB (by simp [World.setRow]) rfl rfl rfl hfz hreal (fun b hbne => setRow_other w _ b _ hbne) ?_⟩
  intro hL
  have hlen : (B.els.take len ++ els2 ++ B.els.drop (len + els2.length)).length = B.els.length := by
    simp only [List.length_append, List.length_take, List.length_drop]; omega
  refine { hN := hb.hN, hz := hb.hz, hlen := by rw [hb.hlen]; exact hlen.symm, rows := ?_, mem := .inr ⟨_, cap', setRow_heap w _ arr _ B.ty _ h1, by simp only [hlen]; exact h2, by simp only [hlen]; exact h3, h4, ?_, ?_, h7, h8⟩ }
  · intro row hrow
    simp only [List.mem_append] at hrow
    rcases hrow with (hrow | hrow) | hrow
    · exact hb.rows row (List.mem_of_mem_take hrow)
    · exact hsrc.rows row hrow
    · exact hb.rows row (List.mem_of_mem_drop hrow)
  · simp only [List.size_toArray, List.length_append, List.length_take, List.length_drop, Array.length_toList]
    simp at hal; omega
  · intro e' j' row c he' hj'
    simp only at he'
    simp only [List.getElem?_toArray]
    rw [seg_get _ _ _ _ hal]
    rw [List.getElem?_append, List.getElem?_append] at he'
    simp only [List.length_append, List.length_take] at he'
    have hmin : min len B.els.length = len := by omega
    rw [hmin] at he'
    by_cases c1 : e' < len
    · rw [if_pos (by omega), if_pos c1, List.getElem?_take_of_lt c1] at he'
      obtain ⟨u, g1, g2, g3, g4⟩ := h6 e' j' row c he' hj'
      have hj2 : j' < B.z := by rw [← hb.rows row (List.mem_of_getElem? he')]; exact (List.getElem?_eq_some_iff.1 hj').1
      refine ⟨u, ?_, g2, g3.mono hL (Xle.refl X), fun hcl => (g4 (by simp at hcl; exact hcl.1)).mono hL⟩
      have := idx_lt c1 hj2
      rw [if_pos (by omega)]; simpa using g1
    · by_cases c2 : e' < len + els2.length
      · rw [if_pos c2, if_neg c1] at he'
        obtain ⟨u, g1, g3, g4⟩ := hsrc.cells _ j' row c he' hj'
        have hj2 : j' < B.z := by rw [← hsrc.rows row (List.mem_of_getElem? he')]; exact (List.getElem?_eq_some_iff.1 hj').1
        have k1 : len * B.z ≤ e' * B.z := Nat.mul_le_mul_right _ (by omega)
        have k2 : (e' - len) * B.z = e' * B.z - len * B.z := Nat.sub_mul ..
        have k3 : (e' - len) * B.z + j' < news.length := (List.getElem?_eq_some_iff.1 g1).1
        refine ⟨u, ?_, hsrc.one u (List.mem_of_getElem? g1), g3.mono hL (Xle.refl X), fun hcl => (g4 (by simp at hcl; exact hcl.2)).mono hL⟩
        rw [if_neg (by omega), if_pos (by omega), show (X.D s i).o + e' * B.z + j' - ((X.D s i).o + len * B.z) = (e' - len) * B.z + j' by omega]
        exact g1
      · rw [if_neg c2, List.getElem?_drop, show len + els2.length + (e' - (len + els2.length)) = e' by omega] at he'
        obtain ⟨u, g1, g2, g3, g4⟩ := h6 e' j' row c he' hj'
        have k1 : (len + els2.length) * B.z ≤ e' * B.z := Nat.mul_le_mul_right _ (by omega)
        rw [Nat.add_mul, ← hsrc.len] at k1
        refine ⟨u, ?_, g2, g3.mono hL (Xle.refl X), fun hcl => (g4 (by simp at hcl; exact hcl.1)).mono hL⟩
        rw [if_neg (by omega), if_neg (by omega)]; simpa using g1
end
end Go.Sx
