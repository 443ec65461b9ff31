/- A part of a proof; no conditions. -/
import Derived.Test.YtnpdjaikmdagmaaP15
import Derived.Test.YtnpdjaikmdagmaaP10
import Derived.Shelf.GgSortFunc.RowK
import Derived.Sort.Grow
import Derived.Test.YtnpdjaikmdagmaaP13
import Derived.Shelf.SlSortCmp.WholeK
set_option linter.unusedSimpArgs false
set_option linter.unusedVariables false
set_option linter.unusedSectionVars false
section
/- Crew: duties in new memory, those of one person. No conditions. -/
set_option linter.unusedSimpArgs false
set_option linter.unusedSectionVars false
set_option maxRecDepth 100000
set_option maxHeartbeats 2000000
namespace Go.Sx
open Go.Proofs
attribute [local irreducible] HLe

/-! a copy -/
def cloS : HSpec where
  go args h := match args with
    | [.sl z els] => ⟨z = 3 ∧ els.length ≤ 1000000, .bsl 8005 (hnext h 8005) els.length, hpush h 8005 { z := 3, els := els, ty := 66 }⟩
    | _ => ⟨False, .top, h⟩
noncomputable abbrev E80 : Env := { P := Try.prog, fn := tbl [], own := [5], key := 8000, nt := 8 }
theorem b80 : HeapBodyG E80 [] Try.f80 cloS := by
  intro args h hc
  match args, hc with
  | [.sl z els], hc =>
    obtain ⟨rfl, hb⟩ := hc
    have hn := fun B => hget_push_new h 8005 B
    cases els with
    | nil =>
      simp -dsimp [Try.f80, E80, cloS]
      repeat' (first | omega | (simp -dsimp [E80, ri, cellp, ints, hn, hset_push]) | (refine Also.intro ?_ fun _ => ?_) | (refine Hold.intro fun _ => ?_) | (refine And.intro ?_ ?_))
      · exact ⟨_, .nil _ _ 2 8005 3 66 rfl (by decide) (by decide) (.refl _), rfl, rfl, HLe.refl _⟩
      · exact ⟨_, .refl _, rfl, rfl, HLe.refl _⟩
    | cons x els =>
      have hb' : els.length + 1 ≤ 1000000 := hb
      simp -dsimp [Try.f80, E80, cloS]
      repeat' (first | omega | (simp -dsimp [E80, ri, cellp, ints, hn, hb', hset_push]) | (refine Also.intro ?_ fun _ => ?_) | (refine Hold.intro fun _ => ?_) | (refine And.intro ?_ ?_))
      exact ⟨_, .refl _, rfl, rfl, HLe.refl _⟩
theorem ok80 : FnOK Try.prog 80 (.heap cloS) := heap_fnG (E := E80) rfl LOK.nil (ok := []) (fn := Try.f80) (by kernel_rfl) (by kernel_rfl) (by kernel_rfl) (by kernel_rfl) rfl (fun args h hc => by match args, hc with | [.sl z els], hc => simp) b80
theorem cloS_go (els : List (List V)) (h : Hp) : cloS.go [.sl 3 els] h = ⟨els.length ≤ 1000000, .bsl 8005 (hnext h 8005) els.length, hpush h 8005 { z := 3, els := els, ty := 66 }⟩ := by simp [cloS]

/-! all but those of one person are left out -/
def ofT (r : Ro) (n : Int) : List (Nat × Site) := [(5603, { base := 0, blks := [{ z := 6, els := [[.sl 3 (r.ppl.map Pn.row), .int .i64 r.lng, .int .i64 r.rst, .int .i64 r.win, .int .i64 r.tot, .int .i64 r.rcn]], ty := 33, fz := true }] }), (5606, { base := 0, blks := [{ z := 7, els := [[.nil, .int .i64 0, .int .i64 0, .int .i64 0, .int .i64 0, .int .i64 0, .nil]], ty := 102 }] }), (5605, { base := 0, blks := [{ z := 1, els := [[.int .i64 n]], ty := 3 }] })]
def ofH (d : Ro × List Du × Int) : Hp := hps ((8005, { base := 0, blks := [{ z := 3, els := d.2.1.map Du.row, ty := 66 }] }) :: ofT d.1 d.2.2) noH
open Classical in
noncomputable def dfV (l : List Du) (n : Int) : V := if idxZ l (Clo.oth n).t = -1 then .bsl 8005 0 l.length else .bsl 7941 0 (own l n).length
open Classical in
noncomputable def dfH (d : Ro × List Du × Int) : Hp := if idxZ d.2.1 (Clo.oth d.2.2).t = -1 then ofH d else hps ((7941, { base := 0, blks := [{ z := 3, els := (own d.2.1 d.2.2).map Du.row, ty := 66 }] }) :: (7907, { base := d.2.1.length, blks := [] }) :: (8005, { base := 1, blks := [] }) :: ofT d.1 d.2.2) noH
def dfE (d : Ro × List Du × Int) : List V := [.bsl 8005 0 d.2.1.length, .fn 81 [.bptr 5605 0 1 0 0]]
theorem df_inj (d d' : Ro × List Du × Int) (h : Hp) (_ : dfE d = dfE d') (h1 : h = ofH d) (h2 : h = ofH d') : d = d' := by
  obtain ⟨r, l, n⟩ := d; obtain ⟨r', l', n'⟩ := d'
  rw [h1] at h2
  have a1 := congrArg Site.blks (congrFun h2 5603)
  have a2 := congrArg Site.blks (congrFun h2 5605)
  have a3 := congrArg Site.blks (congrFun h2 8005)
  simp [ofH, ofT] at a1 a2
  simp only [ofH, hps_cons, if_true, List.cons.injEq, Blk.mk.injEq, and_true, true_and] at a3
  have e1 := Ro.row_inj r r' (by simpa [Ro.row, pplV] using a1)
  rw [e1, a2, mapRow_inj Du.row_inj a3]
noncomputable abbrev delS : HSpec := mkH dfE (fun d h => h = ofH d) (fun d => d.2.1.length ≤ 1000000) (fun d => dfV d.2.1 d.2.2) (fun d _ => dfH d)
theorem delS_go (r : Ro) (l : List Du) (n : Int) : delS.go [.bsl 8005 0 l.length, .fn 81 [.bptr 5605 0 1 0 0]] (hps [(8005, { base := 0, blks := [{ z := 3, els := l.map Du.row, ty := 66 }] }), (5603, { base := 0, blks := [{ z := 6, els := [[.sl 3 (r.ppl.map Pn.row), .int .i64 r.lng, .int .i64 r.rst, .int .i64 r.win, .int .i64 r.tot, .int .i64 r.rcn]], ty := 33, fz := true }] }), (5606, { base := 0, blks := [{ z := 7, els := [[.nil, .int .i64 0, .int .i64 0, .int .i64 0, .int .i64 0, .int .i64 0, .nil]], ty := 102 }] }), (5605, { base := 0, blks := [{ z := 1, els := [[.int .i64 n]], ty := 3 }] })] noH) = ⟨l.length ≤ 1000000, dfV l n, dfH (r, l, n)⟩ := mkH_at df_inj (d := (r, l, n)) rfl
theorem hps_d4 (a b c d : Site) : hps [(5603, a), (5606, b), (5605, c), (5603, d)] noH = hps [(5603, a), (5606, b), (5605, c)] noH := by
  funext k
  by_cases h : k = 5603
  · simp [h]
  · simp [h]
structure DfO (l : List Du) (n : Int) where
  j : Nat
  els : List Du
  hj : (own (l.take j) n).length < j ∧ j ≤ l.length
  hl : els.length = l.length
  ht : els.take (own (l.take j) n).length = own (l.take j) n
  hd : els.drop j = l.drop j
theorem own_all {l : List Du} {n : Int} (h : ∀ d ∈ l, d.p = n) : own l n = l := List.filter_eq_self.2 fun d hd => by simp [h d hd]
noncomputable abbrev E79 : Env := { P := Try.prog, fn := tbl [(81, .pure othS), (100, .pure duixS)], own := [41], key := 7900, nt := 42 }
theorem b79 : HeapBody E79 [] Try.f79 delS := by
  intro args h hc
  obtain ⟨⟨r, l, n⟩, rfl, rfl, hl, hgo⟩ := mkH_inv hc
  rw [hgo]
  clear hgo hc
  have hl : l.length ≤ 1000000 := hl
  · by_cases hi : idxZ l (Clo.oth n).t = -1
    · simp -dsimp [Try.f79, E79, dfE, ofH, ofT, dfV, dfH, hi]
      repeat' (first | omega | (simp -dsimp [E79, ri, cellp, ints, duxE_oth, hi, cellp, Clo.v, hl, hle_refl]) | (refine Also.intro ?_ fun _ => ?_) | (refine Hold.intro fun _ => ?_) | (refine And.intro ?_ ?_))
    · obtain ⟨k, hk, hz, hp, hbef⟩ := idxZ_some hi
      have hkn : ((k : Int) = -1) = False := eq_false (by omega)
      have wk1 : IntKind.wrap .i64 ((k : Int) + 1) = (k + 1 : Nat) := wrap_id (by omega) (by omega)
      have ho1 : own (l.take k) n = l.take k := own_all fun d hd => by
        obtain ⟨j, hj, rfl⟩ := List.getElem_of_mem hd
        have hjl : j < k := by rw [List.length_take] at hj; omega
        have := hbef j (by omega) hjl
        simpa [Clo.t] using this
      have ho2 : own (l.take (k + 1)) n = l.take k := by
        rw [take_snoc l hk, own, List.filter_append]
        have e : l.getD k default = l[k] := by simp [List.getD, hk]
        have hp' : ¬ l[k].p = n := by simpa [Clo.t] using hp
        rw [e]; simp only [List.filter_cons, hp', decide_false, Bool.false_eq_true, if_false, List.filter_nil, List.append_nil]; exact ho1
      have ho3 : (l.take k).length = k := by simp; omega
      have hn0 : 0 < l.length := by omega
      have hne : l ≠ [] := List.length_pos_iff.1 hn0
      have htk : List.take l.length (l.map Du.row) = l.map Du.row := List.take_of_length_le (by simp)
      have e1 : dfV l n = .bsl 7941 0 (own l n).length := if_neg hi
      have e2 : dfH (r, l, n) = hps ((7941, { base := 0, blks := [{ z := 3, els := (own l n).map Du.row, ty := 66 }] }) :: (7907, { base := l.length, blks := [] }) :: (8005, { base := 1, blks := [] }) :: ofT r n) noH := if_neg hi
      rw [e1, e2]
      simp -dsimp [Try.f79, E79, dfE, ofH, ofT]
      repeat' (first | omega | (simp -dsimp [E79, ri, cellp, ints, duxE_oth, hz, hkn, wk1, cellp, Clo.v, hne, hl, hn0, htk]) | (refine Also.intro ?_ fun _ => ?_) | (refine Hold.intro fun _ => ?_) | (refine And.intro ?_ ?_))
      refine awp_loop [16, 17, 18, 19, 22, 23, 24, 25, 7, 26, 27, 28, 29, 30, 31, 32, 33, 34, 35, 5, 20, 21, 6] (fun q : DfO l n => [(5, (true, .int .i64 ((own (l.take q.j) n).length : Nat))), (6, (true, .int .i64 (q.j : Nat)))])
        (fun q : DfO l n => hps [(7907, { base := q.j, blks := [] }), (8005, { base := 0, blks := [{ z := 3, els := q.els.map Du.row, ty := 66 }] }), (5603, { base := 0, blks := [{ z := 6, els := [[.sl 3 (r.ppl.map Pn.row), .int .i64 r.lng, .int .i64 r.rst, .int .i64 r.win, .int .i64 r.tot, .int .i64 r.rcn]], ty := 33, fz := true }] }), (5606, { base := 0, blks := [{ z := 7, els := [[.nil, .int .i64 0, .int .i64 0, .int .i64 0, .int .i64 0, .int .i64 0, .nil]], ty := 102 }] }), (5605, { base := 0, blks := [{ z := 1, els := [[.int .i64 n]], ty := 3 }] })] noH)
        (fun q : DfO l n => l.length - q.j) ⟨k + 1, l, by rw [ho2, ho3]; omega, rfl, by rw [ho2, ho3], rfl⟩ ?_ ?_ ?_
      · simp [okAll, okv, ho2, ho3]
      · exact (by (try simp -dsimp only [hpush_noH, hpush_hps, hps_over]); refine hle_hps ?_; simp -dsimp [allK, Ro.row, pplV]; repeat' (first | (refine And.intro ?_ ?_) | (refine sLe.same ?_ ?_ <;> (simp; done)) | (refine sLe.clear ?_ ?_ <;> (first | (simp; done) | (simp; omega))) | (refine sLe.drop 1 ?_ ?_ ?_ <;> (simp; done))))
      rintro ⟨j, els, ⟨hj1, hj2⟩, hel, hta, hdr⟩
      dsimp only
      by_cases hj : j < l.length
      · have hji : (j : Int) < l.length := by omega
        have wj : IntKind.wrap .i64 ((j : Int) + 1) = (j + 1 : Nat) := wrap_id (by omega) (by omega)
        obtain ⟨x, hx⟩ : ∃ x, els[j]? = some x := ⟨_, List.getElem?_eq_getElem (by omega)⟩
        have hx' : els[j]'(by omega) = x := get_of hx (by omega)
        have hxl : l[j]? = some x := by
          have := congrArg (fun q => q[0]?) hdr
          simpa [hx] using this.symm
        have hts : own (l.take (j + 1)) n = own (l.take j) n ++ (if x.p = n then [x] else []) := by
          rw [take_snoc l hj, own, List.filter_append]
          have e : l.getD j default = x := by simp [List.getD, hxl]
          rw [e, own]; by_cases hxn : x.p = n <;> simp [hxn]
        by_cases hxn : x.p = n
        · rw [if_pos hxn] at hts
          have hbe : (x.p != n) = false := by simp [hxn]
          generalize hio : (own (l.take j) n).length = i at *
          have wi : IntKind.wrap .i64 ((i : Int) + 1) = (i + 1 : Nat) := wrap_id (by omega) (by omega)
          have hii : i < l.length := by omega
          have hiI : (i : Int) < l.length := by omega
          obtain ⟨y, hy⟩ : ∃ y, els[i]? = some y := ⟨_, List.getElem?_eq_getElem (by omega)⟩
          have hy' : els[i]'(by omega) = y := get_of hy (by omega)
          simp -dsimp [hji]
          repeat' (first | omega | (simp -dsimp [E79, ri, cellp, ints, hji, hj, hx, hx', hy, hy', hel, hii, hiI, wj, wi, Du.row, othE_dec, hbe]) | (refine Also.intro ?_ fun _ => ?_) | (refine Hold.intro fun _ => ?_) | (refine And.intro ?_ ?_))
          have hset : List.set (els.map Du.row) i [V.int .i64 x.p, V.int .i64 x.a, V.int .i64 x.b] = (els.set i x).map Du.row := by rw [List.map_set]; rfl
          refine ⟨⟨j + 1, els.set i x, ?_, ?_, ?_, ?_⟩, tle_chain rfl ?_, ?_, ?_⟩
          · rw [hts]; simp; omega
          · simp; exact hel
          · rw [hts]; simp only [List.length_append, hio, List.length_singleton]
            rw [List.take_add_one, List.take_set_of_le (by omega), hta]
            simp [show i < els.length by omega]
          · rw [List.drop_set_of_lt (by omega), ← List.drop_drop, hdr, List.drop_drop]
          · simp [okAll, okv, hts, hio]
          · rw [hset]; exact (by (try simp -dsimp only [hpush_noH, hpush_hps, hps_over]); refine hle_hps ?_; simp -dsimp [allK, ]; repeat' (first | (refine And.intro ?_ ?_) | (refine sLe.same ?_ ?_ <;> (simp; done)) | (refine sLe.clear ?_ ?_ <;> (first | (simp; done) | (simp; omega))) | (refine sLe.drop 1 ?_ ?_ ?_ <;> (simp; done))))
          · dsimp only; omega
        · rw [if_neg hxn, List.append_nil] at hts
          have hbe : (x.p != n) = true := by simp [hxn]
          simp -dsimp [hji]
          repeat' (first | omega | (simp -dsimp [E79, ri, cellp, ints, hji, hj, hx, hx', hel, wj, Du.row, othE_dec, hbe]) | (refine Also.intro ?_ fun _ => ?_) | (refine Hold.intro fun _ => ?_) | (refine And.intro ?_ ?_))
          refine ⟨⟨j + 1, els, ?_, hel, ?_, ?_⟩, tle_chain rfl ?_, ?_, ?_⟩
          · rw [hts]; omega
          · rw [hts]; exact hta
          · rw [← List.drop_drop, hdr, List.drop_drop]
          · simp [okAll, okv, hts]
          · exact (by (try simp -dsimp only [hpush_noH, hpush_hps, hps_over]); refine hle_hps ?_; simp -dsimp [allK, ]; repeat' (first | (refine And.intro ?_ ?_) | (refine sLe.same ?_ ?_ <;> (simp; done)) | (refine sLe.clear ?_ ?_ <;> (first | (simp; done) | (simp; omega))) | (refine sLe.drop 1 ?_ ?_ ?_ <;> (simp; done))))
          · dsimp only; omega
      · have hjn : ¬ (j : Int) < l.length := by omega
        have hje : j = l.length := by omega
        subst hje
        rw [List.take_length] at hta hj1
        simp -dsimp [hjn]
        have hol := own_len l n
        have hfin : ∀ X : List (List V), List.take (own l n).length (List.take (own l n).length (els.map Du.row) ++ X) = (own l n).map Du.row := fun X => by
          rw [← List.map_take, hta, List.take_left' (by simp)]
        have hne' : ¬ els = [] := by intro e; rw [e] at hel; simp at hel; omega
        repeat' (first | omega | (simp -dsimp [E79, ri, cellp, ints, hel, hne, hne', hfin]) | (refine Also.intro ?_ fun _ => ?_) | (refine Hold.intro fun _ => ?_) | (refine And.intro ?_ ?_))
        exact (by (try simp -dsimp only [hpush_noH, hpush_hps, hps_over]); refine hle_hps ?_; simp -dsimp [allK, Ro.row, pplV]; repeat' (first | (refine And.intro ?_ ?_) | (refine sLe.same ?_ ?_ <;> (simp; done)) | (refine sLe.clear ?_ ?_ <;> (first | (simp; done) | (simp; omega))) | (refine sLe.drop 1 ?_ ?_ ?_ <;> (simp; done))))
theorem ok79 : FnOK Try.prog 79 (.heap delS) := heap_fn (E := E79) rfl (.cons ok81 (.cons ok100 .nil)) (ok := []) (fn := Try.f79) (by kernel_rfl) (by kernel_rfl) (by kernel_rfl) (by kernel_rfl) rfl (fun args h hc => by obtain ⟨d, rfl, _⟩ := mkH_inv hc; simp [dfE]) b79

/-! the duties of a person, with the roster -/
@[simp] def ofE (d : Ro × List Du × Int) : List V := [.agg d.1.row, .sl 3 (d.2.1.map Du.row), .int .i64 d.2.2]
theorem ofE_inj (a b : Ro × List Du × Int) (h : ofE a = ofE b) : a = b := by
  obtain ⟨a1, a2, a3⟩ := a; obtain ⟨b1, b2, b3⟩ := b
  simp only [ofE, List.cons.injEq, V.agg.injEq, V.sl.injEq, V.int.injEq, true_and, and_true] at h
  rw [Ro.row_inj _ _ h.1, mapRow_inj Du.row_inj h.2.1, h.2.2]
theorem ofE_dec (r : Ro) (l : List Du) (n : Int) : decC ofE [.agg [.sl 3 (r.ppl.map Pn.row), .int .i64 r.lng, .int .i64 r.rst, .int .i64 r.win, .int .i64 r.tot, .int .i64 r.rcn], .sl 3 (l.map Du.row), .int .i64 n] = (r, l, n) := decC_eq ofE_inj (r, l, n)
noncomputable abbrev ofS : PSpec := mkP ofE (fun d => d.2.1.length ≤ 1000000) fun d => .agg (bkRow d.1 (own d.2.1 d.2.2))
noncomputable abbrev E56 : Env := { P := Try.prog, fn := tbl [(80, .heap cloS), (79, .heap delS)], own := [], key := 5600, nt := 13, frz := [(1, [3, 50003])] }
theorem b56 : PureBody E56 [(1, ([0], [[0, 1, 2, 3, 4, 5, 6]]))] Try.f56 ofS := by
  refine pb ?_
  rintro ⟨r, l, n⟩ hl
  have hl : l.length ≤ 1000000 := hl
  have hd := delS_go r l n
  by_cases hi : idxZ l (Clo.oth n).t = -1
  · have hall : own l n = l := own_all fun d hd => by
      have hz := idxZ_any l (Clo.oth n).t
      rw [hi] at hz
      have := List.any_eq_false.1 hz.symm d hd
      simpa [Clo.t] using this
    simp -dsimp [Try.f56, E56, Ro.row, pplV, bkRow, hps_d4]
    repeat' (first | omega | (simp -dsimp [E56, ri, cellp, ints, FreeAt, cloS_go, hd, hl, hps_d4, dfV, dfH, ofH, ofT, hi, hall, bkRow]) | (refine Also.intro ?_ fun _ => ?_) | (refine Hold.intro fun _ => ?_) | (refine And.intro ?_ ?_))
  · simp -dsimp [Try.f56, E56, Ro.row, pplV, bkRow, hps_d4]
    repeat' (first | omega | (simp -dsimp [E56, ri, cellp, ints, FreeAt, cloS_go, hd, hl, hps_d4, dfV, dfH, ofH, ofT, hi, bkRow]) | (refine Also.intro ?_ fun _ => ?_) | (refine Hold.intro fun _ => ?_) | (refine And.intro ?_ ?_))
theorem ok56 : FnOK Try.prog 56 (.pure ofS) := pure_fn (E := E56) rfl (.cons ok80 (.cons ok79 .nil)) (ok := [(1, ([0], [[0, 1, 2, 3, 4, 5, 6]]))]) (fn := Try.f56) (by kernel_rfl) (by kernel_rfl) (by kernel_rfl) (by kernel_rfl) rfl (fun _ _ => by simp) b56
end Go.Sx
end
section
/- A sort of the library, as a contract on the heap. No conditions. -/
set_option linter.unusedSimpArgs false
namespace Go.Sx
open Go.RowKit Go.Proofs Go.Sort
variable [Gls]

section
variable {α : Type} [Inhabited α] (l : α → List Int)

/-- An element's cells: ints. -/
def intR (x : α) : List V := (l x).map (V.int .i64)
def intE (x : α) : List Value := (l x).map (Value.int .i64)

open Classical in
noncomputable def unR (row : List V) : α := if h : ∃ x, intR l x = row then h.choose else default
omit [Gls] in
variable {l} in
theorem unR_R (hinj : ∀ x y, l x = l y → x = y) (x : α) : unR l (intR l x) = x := by
  unfold unR
  have h : ∃ y, intR l y = intR l x := ⟨x, rfl⟩
  rw [dif_pos h]
  have hc := h.choose_spec
  refine hinj _ _ ?_
  unfold intR at hc
  have hm : ∀ a b : List Int, a.map (V.int .i64) = b.map (V.int .i64) → a = b := by
    intro a
    induction a with
    | nil => intro b h; cases b with
      | nil => rfl
      | cons => simp at h
    | cons x a ih => intro b h; cases b with
      | nil => simp at h
      | cons y b => simp only [List.map_cons, List.cons.injEq, V.int.injEq, true_and] at h; rw [h.1, ih b h.2]
  exact hm _ _ hc

/-- The sort's contract: it gets an owned slice, whole; its rows are sorted then by 'srt'. -/
noncomputable def sortS (k : Nat) (ty : TypeId) (srt : Array α → Array α) (ex : List V) : HSpec where
  go args h := match args with
    | .bsl s i n :: r => match hget h s i with
      | some B => ⟨r = ex ∧ B.fz = false ∧ B.z = k ∧ B.ty = ty ∧ n = B.els.length ∧ 1 ≤ n ∧ n < 4611686018427387904 ∧ ∃ d : List α, B.els = d.map (intR l), .tup [], hset h s i { B with els := (srt (B.els.map (unR l)).toArray).toList.map (intR l) }⟩
      | none => ⟨False, .top, h⟩
    | _ => ⟨False, .top, h⟩

omit [Gls] in
theorem intR_get {α : Type} (l : α → List Int) {x : α} {j : Nat} {c : V} (h : (intR l x)[j]? = some c) : ∃ n, c = .int .i64 n ∧ (intE l x)[j]! = .int .i64 n ∧ j < (l x).length := by
  unfold intR at h
  rw [List.getElem?_map] at h
  cases hj : (l x)[j]? with
  | none => simp [hj] at h
  | some n =>
    rw [hj] at h
    simp only [Option.map_some, Option.some.injEq] at h
    refine ⟨n, h.symm, ?_, (List.getElem?_eq_some_iff.1 hj).1⟩
    unfold intE
    rw [List.getElem!_eq_getElem?_getD, List.getElem?_map, hj]; rfl

theorem sort_ok {P : Program} {f : FuncId} {k : Nat} {ty : TypeId} {srt : Array α → Array α} {ex : List V} {exv : List Value}
    (hcall : ∀ (args : Array Value) (w : World), (callFunc f args).run P w = .ok (.enter f args) w) (hk : ∀ x, (l x).length = k) (hk0 : 0 < k) (hinj : ∀ x y, l x = l y → x = y) (hsize : ∀ d, (srt d).size = d.size)
    (hexv : ∀ (w : World) (A : Nat → Prop) (X : Refs) (u : List Value), u.length = ex.length → (∀ i c, ex[i]? = some c → RV w A X c (u.getD i und)) → u = exv)
    (hsort : ∀ (blk off cap : Nat) (d : Array α) (w : World), HoldsK (intE l) k w blk off d → blk < w.heap.size → 1 ≤ d.size → d.size < 4611686018427387904 →
      Calls P f (Value.slice (some ⟨blk, off, none⟩) d.size cap :: exv).toArray w fun e w' => e = .returned (.tuple #[]) ∧ ∃ n os, w' = Go.Sort.grow (putRowK (intE l) k (Sort.ahead w n) blk off (srt d)) os) :
    FnOK P f (.heap (sortS l k ty srt ex)) := by
  refine { call := hcall, iter := fun S' h => (by cases h), pure := fun S' hS => (by cases hS), heap := fun S' hS => ?_ }
  cases hS
  intro args h hc w A X vals hI hsz hargs
  match args, hc with
  | [], hc => exact hc.elim
  | x :: r, hc =>
  cases x with
  | bsl s i n =>
    cases hB : hget h s i with
    | none => simp [sortS, hB] at hc
    | some B =>
      have hgo : (sortS l k ty srt ex).go (.bsl s i n :: r) h = ⟨r = ex ∧ B.fz = false ∧ B.z = k ∧ B.ty = ty ∧ n = B.els.length ∧ 1 ≤ n ∧ n < 4611686018427387904 ∧ ∃ d : List α, B.els = d.map (intR l), .tup [], hset h s i { B with els := (srt (B.els.map (unR l)).toArray).toList.map (intR l) }⟩ := by simp only [sortS, hB]
      rw [hgo] at hc ⊢
      obtain ⟨hr, hfz, hz, hty, hn, h1, h62, d, hd⟩ := hc
      subst hr
      have hun : B.els.map (unR l) = d := by
        rw [hd, List.map_map]
        have : (unR l ∘ intR l) = id := funext fun x => unR_R hinj x
        rw [this, List.map_id]
      simp only [hun]
      have hdl : d.length = n := by rw [hn, hd, List.length_map]
      obtain ⟨a, c, e0, hN, hnl, hv⟩ := (hargs 0 (.bsl s i n) rfl).bsl_inv
      have hb := hI.blk s i B hB
      have hv' := hv (by rw [hb.hlen, hn])
      rcases hb.mem with ⟨_, hnil⟩ | ⟨arr, cap, g1, g2, g3, g4, g5, g6, g7, g8⟩
      · rw [hnil] at hn; simp at hn; omega
      have hvals : vals = (Value.slice (some ⟨(X.D s i).b, (X.D s i).o, none⟩) d.toArray.size cap :: exv).toArray := by
        have hx := hexv w A X (vals.toList.drop 1) (by simp at hsz ⊢; omega) (fun j c hj => by
          have := hargs (j + 1) c (by simpa using hj)
          rw [List.getD_eq_getElem?_getD, List.getElem?_drop, Array.getElem?_toList, Nat.add_comm 1 j]
          rwa [Array.getD_eq_getD_getElem?] at this)
        have h0 : vals.getD 0 und = Value.slice (some ⟨(X.D s i).b, (X.D s i).o, none⟩) d.toArray.size cap := by
          rw [e0, hv', g2]; simp only [List.size_toArray, hdl, hn]
        apply Array.toList_inj.1
        rw [← hx]
        cases hvl : vals.toList with
        | nil => have := congrArg List.length hvl; simp at this hsz; simp [this] at hsz
        | cons y ys =>
          have : vals.getD 0 und = y := by rw [Array.getD_eq_getD_getElem?, ← Array.getElem?_toList, hvl]; rfl
          rw [← h0, this]; simp
      have hdsz : d.toArray.size = n := by simpa using hdl
      have hlt : (X.D s i).b < w.heap.size := (Array.getElem?_eq_some_iff.1 g1).1
      have hH : HoldsK (intE l) k w (X.D s i).b (X.D s i).o d.toArray := by
        intro j hj
        rw [size_flatK] at hj
        have hj' := hj
        rw [get_flatK _ _ _ _ hj']
        have he : j / k < d.length := by rw [hdl, ← hdsz]; exact Nat.div_lt_of_lt_mul (by rw [Nat.mul_comm]; exact hj)
        have hm : j % k < k := Nat.mod_lt _ hk0
        have e1 : B.els[j / k]? = some (intR l d[j / k]) := by rw [hd, List.getElem?_map, List.getElem?_eq_getElem he]; rfl
        have e2 : (intR l d[j / k])[j % k]? = some (.int .i64 ((l d[j / k])[j % k]'(by rw [hk]; exact hm))) := by
          unfold intR; rw [List.getElem?_map, List.getElem?_eq_getElem (by rw [hk]; exact hm)]; rfl
        obtain ⟨u, u1, u2, u3, u4⟩ := g6 _ _ _ _ e1 e2
        have u5 := u3.int_inv
        have hjk : (X.D s i).o + j / k * k + j % k = (X.D s i).o + j := by have := Nat.div_add_mod j k; rw [Nat.mul_comm] at this; omega
        rw [hz, hjk] at u1
        obtain ⟨m, m1, m2, _⟩ := intR_get l e2
        have e3 : d.toArray[j / k]! = d[j / k] := by simp [he]
        refine ⟨?_, ?_⟩
        · unfold World.cell?
          simp only [g1, Option.isSome_none, Bool.false_eq_true, if_false]
          injection m1 with _ m3
          rw [u1, u5, e3, m2, m3]; rfl
        · unfold World.frozen?
          simp [g1]
      rw [hvals]
      refine (hsort _ _ _ d.toArray w hH hlt (by omega) (by omega)).mono ?_
      rintro e w' ⟨rfl, q, os, rfl⟩
      have hs' := hsize d.toArray
      generalize hdd : srt d.toArray = d' at *
      have hd'n : d'.size = n := by omega
      have hB' : ({ B with els := d'.toList.map (intR l) } : Blk) = { B with els := d'.toList.map (intR l) } := rfl
      have hw1 : (putRowK (intE l) k w (X.D s i).b (X.D s i).o d').heap[(X.D s i).b]? = some (.cells (putCells id (X.D s i).o (flatK (intE l) k d') arr) B.ty (0, 0)) := by
        simp only [putRowK, putRow, mapBlock, Array.getElem?_modify, if_true, g1, Option.map_some, onCells]
      obtain ⟨hL, hI1⟩ := hI.turn (B' := { B with els := d'.toList.map (intR l) }) hB (w' := putRowK (intE l) k w (X.D s i).b (X.D s i).o d') (by simp [putRowK, putRow, mapBlock]) rfl rfl rfl hfz (by rw [Hd.real, g2]; simp)
        (fun b hne => by simp only [putRowK, putRow, mapBlock, Array.getElem?_modify]; rw [if_neg (fun e => hne e.symm)])
        (fun hL => { hN := hN, hz := hb.hz, hlen := by rw [hb.hlen]; simp; omega, rows := fun row hrow => by
                       obtain ⟨x, _, rfl⟩ := List.mem_map.1 hrow
                       simp [intR, hk, hz]
                     mem := .inr ⟨_, cap, hw1, by rw [g2]; simp; omega, by simp; omega, g4, by
                       have : (putCells id (X.D s i).o (flatK (intE l) k d') arr).size = arr.size := by simp [putCells]
                       rw [this]; exact g5, fun e j row c he hj => by
                         simp only at he
                         rw [List.getElem?_map] at he
                         cases hx : d'.toList[e]? with
                         | none => simp [hx] at he
                         | some x =>
                         rw [hx] at he
                         simp only [Option.map_some, Option.some.injEq] at he
                         subst he
                         obtain ⟨m, m1, m2, m3⟩ := intR_get l hj
                         rw [hk] at m3
                         have hel : e < d'.size := by have := (List.getElem?_eq_some_iff.1 hx).1; simpa using this
                         have hbnd : e * k + j < d'.size * k := by
                           have := Nat.mul_le_mul_right k (show e + 1 ≤ d'.size from hel); rw [Nat.add_mul, Nat.one_mul] at this; omega
                         have hin : (X.D s i).o + e * k + j < arr.size := by
                           have hcz := g5
                           rw [hz] at hcz
                           have : d'.size * k ≤ cap * k := Nat.mul_le_mul_right k (by omega)
                           omega
                         refine ⟨.int .i64 m, ?_, rfl, ?_, fun _ => ?_⟩
                         · rw [hz]
                           simp only [putCells, Array.getElem?_mapIdx, Array.getElem?_eq_getElem hin, Option.map_some, size_flatK]
                           rw [if_pos ⟨by omega, by omega⟩, show (X.D s i).o + e * k + j - (X.D s i).o = e * k + j by omega, get_flatK _ _ _ _ hbnd]
                           have e1 : (e * k + j) / k = e := (blk_iff k e _ hk0).1 ⟨by omega, by omega⟩
                           have e2 : (e * k + j) % k = j := by rw [Nat.mod_eq_sub_div_mul, e1]; omega
                           rw [e1, e2]
                           have e3 : d'[e]! = x := by
                             rw [Array.getElem?_toList] at hx
                             rw [getElem!_def, hx]
                           rw [e3, m2]; rfl
                         · rw [m1]; exact .pure (.int _ _)
                         · rw [m1]; exact .int _ _, g7, g8⟩ })
      obtain ⟨_, hI2⟩ := hI1.below (w' := Go.Sort.grow (putRowK (intE l) k (Sort.ahead w q) (X.D s i).b (X.D s i).o d') os) { os := rfl, tape := rfl, output := rfl, size := by simp [Go.Sort.grow, putRowK, putRow, mapBlock, Sort.ahead], block := (fun b hlt => by
        simp only [Go.Sort.grow, putRowK, putRow, mapBlock, Sort.ahead] at hlt ⊢
        rw [Array.getElem?_append_left hlt]) }
      exact ⟨_, A, X, rfl, hI2, .pure (.tup [] #[] rfl (fun i c h => by simp at h))⟩
  | _ => exact hc.elim
end
end Go.Sx
end
section
/- Crew: the library's sort at duties, by the kit's contract. No conditions. -/
set_option linter.unusedSimpArgs false
set_option linter.unusedSectionVars false
set_option maxRecDepth 100000
namespace Go.Proofs
open Go.Shelf
def Try.sortDu_ren : Go.Shelf.Ren := ⟨fun | 6 => 108 | 15 => 112 | 14 => 111 | 28 => 121 | 29 => 122 | 20 => 113 | 21 => 114 | 22 => 115 | 23 => 116 | 24 => 117 | 25 => 118 | 26 => 119 | 27 => 120 | 46 => 123 | 47 => 124 | 48 => 125 | 49 => 126 | 50 => 127 | 57 => 128 | n => n, fun | 22 => 34 | 24 => 66 | 25 => 147 | 3 => 3 | 39 => 151 | 0 => 0 | 53 => 161 | 55 => 163 | 4 => 4 | 46 => 154 | 45 => 153 | 50 => 158 | 5 => 5 | 9 => 9 | 66 => 164 | 70 => 168 | 76 => 170 | 77 => 76 | n => n, fun | n => n⟩
theorem Try.sortDu : Go.Proofs.SlLaysF0.n6 Try.prog Try.sortDu_ren := {
  mixed := by kernel_rfl
  f6 := ⟨Try.f108.name, by decide, Try.func108.trans (congrArg some (by kernel_rfl))⟩
  f14 := ⟨Try.f111.name, by decide, Try.func111.trans (congrArg some (by kernel_rfl))⟩
  f15 := Try.func112.trans (congrArg some (by kernel_rfl))
  f20 := ⟨Try.f113.name, by decide, Try.func113.trans (congrArg some (by kernel_rfl))⟩
  f21 := ⟨Try.f114.name, by decide, Try.func114.trans (congrArg some (by kernel_rfl))⟩
  f22 := ⟨Try.f115.name, by decide, Try.func115.trans (congrArg some (by kernel_rfl))⟩
  f23 := ⟨Try.f116.name, by decide, Try.func116.trans (congrArg some (by kernel_rfl))⟩
  f24 := ⟨Try.f117.name, by decide, Try.func117.trans (congrArg some (by kernel_rfl))⟩
  f25 := ⟨Try.f118.name, by decide, Try.func118.trans (congrArg some (by kernel_rfl))⟩
  f26 := ⟨Try.f119.name, by decide, Try.func119.trans (congrArg some (by kernel_rfl))⟩
  f27 := ⟨Try.f120.name, by decide, Try.func120.trans (congrArg some (by kernel_rfl))⟩
  f28 := Try.func121.trans (congrArg some (by kernel_rfl))
  f29 := Try.func122.trans (congrArg some (by kernel_rfl))
  f46 := ⟨Try.f123.name, by decide, Try.func123.trans (congrArg some (by kernel_rfl))⟩
  f47 := Try.func124.trans (congrArg some (by kernel_rfl))
  f48 := Try.func125.trans (congrArg some (by kernel_rfl))
  f49 := ⟨Try.f126.name, by decide, Try.func126.trans (congrArg some (by kernel_rfl))⟩
  f50 := ⟨Try.f127.name, by decide, Try.func127.trans (congrArg some (by kernel_rfl))⟩
  f57 := ⟨Try.f128.name, by decide, Try.func128.trans (congrArg some (by kernel_rfl))⟩
  t0 := Try.underlying0
  a0 := Try.isAgg0
  z0 := Try.sizeOf0
  v0 := Try.zeroValue0
  t3 := Try.underlying3
  a3 := Try.isAgg3
  z3 := Try.sizeOf3
  v3 := Try.zeroValue3
  t4 := Try.underlying4
  a4 := Try.isAgg4
  z4 := Try.sizeOf4
  v4 := Try.zeroValue4
  t5 := Try.underlying5
  a5 := Try.isAgg5
  z5 := Try.sizeOf5
  v5 := Try.zeroValue5
  t9 := Try.underlying9
  a9 := Try.isAgg9
  z9 := Try.sizeOf9
  v9 := Try.zeroValue9
  t22 := Try.underlying34
  a22 := Try.isAgg34
  z22 := Try.sizeOf34
  v22 := Try.zeroValue34
  t25 := Try.underlying147
  a25 := Try.isAgg147
  z25 := Try.sizeOf147
  v25 := Try.zeroValue147
  t39 := Try.underlying151
  a39 := Try.isAgg151
  z39 := Try.sizeOf151
  v39 := Try.zeroValue151
  t45 := Try.underlying153
  a45 := Try.isAgg153
  z45 := Try.sizeOf153
  v45 := Try.zeroValue153
  t46 := Try.underlying154
  a46 := Try.isAgg154
  z46 := Try.sizeOf154
  v46 := Try.zeroValue154
  t50 := Try.underlying158
  a50 := Try.isAgg158
  z50 := Try.sizeOf158
  v50 := Try.zeroValue158
  t53 := Try.underlying161
  a53 := Try.isAgg161
  z53 := Try.sizeOf161
  v53 := Try.zeroValue161
  t55 := Try.underlying163
  a55 := Try.isAgg163
  z55 := Try.sizeOf163
  v55 := Try.zeroValue163
  t66 := Try.underlying164
  a66 := Try.isAgg164
  z66 := Try.sizeOf164
  v66 := Try.zeroValue164
  t70 := Try.underlying168
  a70 := Try.isAgg168
  z70 := Try.sizeOf168
  v70 := Try.zeroValue168
  t76 := Try.underlying170
  a76 := Try.isAgg170
  z76 := Try.sizeOf170
  v76 := Try.zeroValue170
  t77 := Try.underlying76
  a77 := Try.isAgg76
  z77 := Try.sizeOf76
  v77 := Try.zeroValue76 }
end Go.Proofs
namespace Go.Sx
open Go.Proofs Go.Shelf Go.RowKit Go.Lib Go.Sort

abbrev Dus : Type := { d : Du // 0 ≤ d.a ∧ d.a ≤ 9223372036854775807 }
instance : Inhabited Dus := ⟨⟨⟨0, 0, 1⟩, by decide⟩⟩
def duL (x : Dus) : List Int := [x.1.p, x.1.a, x.1.b]
theorem duL_inj (x y : Dus) (h : duL x = duL y) : x = y := by
  obtain ⟨⟨a, b, c⟩, hx⟩ := x; obtain ⟨⟨a', b', c'⟩, hy⟩ := y
  simp only [duL, List.cons.injEq, and_true] at h
  obtain ⟨rfl, rfl, rfl⟩ := h
  rfl
theorem duL_row (x : Dus) : intR duL x = x.1.row := rfl
set_option maxHeartbeats 1000000 in
theorem duCmp_walk (a b c d e f : Int) (W : World) : Calls Try.prog 109 #[.agg #[.int .i64 a, .int .i64 b, .int .i64 c], .agg #[.int .i64 d, .int .i64 e, .int .i64 f]] W fun ex w' => ex = .returned (.int .i64 (IntKind.wrap .i64 (b - e))) ∧ ∃ q os', w' = grow (W.drewN q) os' := by
  go_enter Try.func109, Try.ntmps109
  go_wp2
  go_ret
  have hw : ∀ n, wrap64 n = IntKind.wrap .i64 n := fun n => by
    unfold wrap64 IntKind.wrap
    simp [IntKind.bits, IntKind.signed]
    split <;> omega
  rw [← hw]
  exact ⟨by simp, 0, _, by rw [alloc_eq_grow, alloc_eq_grow, grow_grow]; rfl⟩
def duC (x y : Dus) : Int := x.1.a - y.1.a
theorem duC_lt (x y : Dus) : ltOf duC x y = decide (x.1.a < y.1.a) := by
  unfold ltOf duC
  by_cases h : x.1.a < y.1.a
  · simp [h]; omega
  · simp [h]; omega
theorem duC_SWO : SWO (ltOf duC) where
  irrefl x := by rw [duC_lt]; simp
  trans x y z h1 h2 := by rw [duC_lt] at *; simp at *; omega
  ntrans x y z h1 h2 := by rw [duC_lt] at *; simp at *; omega
theorem duCmpLays (blk off size : Nat) (w : World) : CmpLays Try.prog 109 #[] (intE duL) 3 duC blk off size w := fun _ _ _ _ x y => by
  have := duCmp_walk x.1.p x.1.a x.1.b y.1.p y.1.a y.1.b (sortWorldK (intE duL) 3 w blk off ‹Nat› ‹Array Dus› ‹Array Obj›)
  rw [show IntKind.wrap .i64 (x.1.a - y.1.a) = x.1.a - y.1.a by have := x.2; have := y.2; exact wrap_id (by omega) (by omega)] at this
  exact this
noncomputable def duSrt (d : Array Dus) : Array Dus := pdq (ltOf duC) d 0 d.size (Lib.bitLen d.size) true true
theorem duSrt_spec (d : Array Dus) : PermIn 0 d.size d (duSrt d) ∧ SortedIn (ltOf duC) 0 d.size (duSrt d) :=
  pdq_sorts (ltOf duC) duC_SWO d 0 d.size (Lib.bitLen d.size) true true (Nat.zero_le _) (Nat.le_refl _) (Or.inl rfl)
noncomputable abbrev duSortS : HSpec := sortS duL 3 66 duSrt [.fn 109 []]
theorem ok108 : FnOK Try.prog 108 (.heap duSortS) := sort_ok duL (exv := [.func (.func 109) #[] #[]]) (fun args w => run_call (fn := Try.f108) (by kernel_rfl) (by kernel_rfl) rfl args w) (fun _ => rfl) (by decide) duL_inj (fun d => (duSrt_spec d).1.1)
  (fun w A X u hl hu => by
    match u, hl with
    | [v], _ =>
      obtain ⟨us, e, hs, _⟩ := (hu 0 (.fn 109 []) rfl).fn_inv
      have : us = #[] := Array.eq_empty_of_size_eq_zero (by simpa using hs)
      subst this
      simp at e
      rw [e])
  (fun blk off cap d w hH hblk h1 h62 => AnyQ.slices_SortFunc_eq Try.sortDu 3 Try.isAgg66 Try.sizeOf66 (intE duL) (fun _ => rfl) (fun x v hv => by simp [intE, duL] at hv; rcases hv with rfl | rfl | rfl <;> rfl) duC duC_SWO 109 #[] blk off cap d w (enters_of Try.func109 (by kernel_rfl) rfl) (duCmpLays blk off d.size w) hH hblk h62)

/-! as a sort of duties -/
noncomputable def toDus (l : List Du) : List Dus := l.filterMap fun d => if h : 0 ≤ d.a ∧ d.a ≤ 9223372036854775807 then some ⟨d, h⟩ else none
theorem toDus_val : ∀ {l : List Du}, (∀ d ∈ l, 0 ≤ d.a ∧ d.a ≤ 9223372036854775807) → (toDus l).map (·.1) = l
  | [], _ => rfl
  | d :: l, h => by
    have hd := h d (by simp)
    have ih := toDus_val (l := l) fun x hx => h x (by simp [hx])
    unfold toDus at ih ⊢
    rw [List.filterMap_cons, dif_pos hd]
    simp only [List.map_cons, ih]
noncomputable def srtD (l : List Du) : List Du := (duSrt (toDus l).toArray).toList.map (·.1)
theorem duSrt_perm (d : List Dus) : (duSrt d.toArray).toList.Perm d := by
  have h := (duSrt_spec d.toArray).1
  have e1 : ((duSrt d.toArray).extract 0 d.toArray.size).toList = (duSrt d.toArray).toList := by
    rw [← h.1, Array.extract_size]
  have e2 : (d.toArray.extract 0 d.toArray.size).toList = d := by rw [Array.extract_size]
  have := h.2.2
  rw [e1, e2] at this
  exact this
theorem srtD_ok : SrtOk srtD where
  perm l h := by
    have := (duSrt_perm (toDus l)).map (·.1)
    rw [toDus_val h] at this
    exact this
  sort l h := by
    have hs := (duSrt_spec (toDus l).toArray).2
    have hl : (duSrt (toDus l).toArray).size = (toDus l).toArray.size := (duSrt_spec (toDus l).toArray).1.1
    unfold srtD
    rw [List.pairwise_map, List.pairwise_iff_getElem]
    intro i j hi hj hij
    have hi' : i < (duSrt (toDus l).toArray).size := by simpa using hi
    have hj' : j < (duSrt (toDus l).toArray).size := by simpa using hj
    have := hs i j (Nat.zero_le _) hij (by omega)
    rw [duC_lt, getElem!_pos _ i hi', getElem!_pos _ j hj'] at this
    simp only [decide_eq_false_iff_not, Int.not_lt] at this
    simpa using this
theorem srtD_len {l : List Du} (h : ∀ d ∈ l, 0 ≤ d.a ∧ d.a ≤ 9223372036854775807) : (srtD l).length = l.length := (srtD_ok.perm l h).length_eq
/-- What the sort does. -/
theorem duSort_go {h : Hp} {s i n : Nat} {l : List Du} {cl : Bool} (hl : ∀ d ∈ l, 0 ≤ d.a ∧ d.a ≤ 9223372036854775807) (hB : hget h s i = some { z := 3, els := l.map Du.row, ty := 66, cl := cl }) (hn : n = l.length) (h1 : 1 ≤ n) (h2 : n < 4611686018427387904) :
    duSortS.go [.bsl s i n, .fn 109 []] h = ⟨True, .tup [], hset h s i { z := 3, els := (srtD l).map Du.row, ty := 66, cl := cl }⟩ := by
  have hd : l.map Du.row = (toDus l).map (intR duL) := by
    conv => lhs; rw [← toDus_val hl]
    rw [List.map_map]; rfl
  have hun : (l.map Du.row).map (unR duL) = toDus l := by
    rw [hd, List.map_map]
    have : (unR duL ∘ intR duL) = id := funext fun x => unR_R duL_inj x
    rw [this, List.map_id]
  have he : (duSrt (toDus l).toArray).toList.map (intR duL) = (srtD l).map Du.row := by
    rw [srtD, List.map_map]; rfl
  simp only [duSortS, sortS, hB, hun, he]
  congr 1
  exact eq_true ⟨trivial, trivial, trivial, trivial, by rw [List.length_map]; exact hn, h1, h2, toDus l, hd⟩
end Go.Sx
end
section
/- Contracts of functions that work on an object in the heap: its sites hold a state, all others are left to the caller. No conditions. -/
set_option linter.unusedSimpArgs false
namespace Go.Sx
variable [Gls]
section
variable {σ : Type} {LC : σ → List (Nat × Site)} {keys : List Nat}
/-- A heap whose object is in state s. -/
def Ob (LC : σ → List (Nat × Site)) (s : σ) (h : Hp) : Hp := hps (LC s) h
omit [Gls] in
theorem ob_ne (hk : ∀ s, (LC s).map (·.1) = keys) {s : σ} {h : Hp} {k : Nat} (hn : keys.contains k = false) : Ob LC s h k = h k :=
  hps_not (by rw [hk]; simpa [List.contains_eq_mem] using hn)
omit [Gls] in
theorem ob_ob (hk : ∀ s, (LC s).map (·.1) = keys) (s s' : σ) (h : Hp) : Ob LC s (Ob LC s' h) = Ob LC s h := by
  funext k
  by_cases hn : k ∈ keys
  · exact hps_mem (by rw [hk]; exact hn)
  · have hn' : keys.contains k = false := by simpa [List.contains_eq_mem] using hn
    rw [ob_ne hk hn', ob_ne hk hn', ob_ne hk hn']
omit [Gls] in
theorem ob_over (hk : ∀ s, (LC s).map (·.1) = keys) {s : σ} {h : Hp} {L : List (Nat × Site)} (hn : (L.all fun p => !keys.contains p.1) = true) : hps L (Ob LC s h) = Ob LC s (hps L h) := by
  funext k
  by_cases hm : k ∈ L.map (·.1)
  · have hnk : keys.contains k = false := by
      obtain ⟨p, hp, rfl⟩ := List.mem_map.1 hm
      simpa using List.all_eq_true.1 hn p hp
    rw [ob_ne hk hnk]; exact hps_mem hm
  · rw [hps_not hm]
    by_cases hnk : k ∈ keys
    · exact hps_mem (by rw [hk]; exact hnk)
    · have hn' : keys.contains k = false := by simpa [List.contains_eq_mem] using hnk
      rw [ob_ne hk hn', ob_ne hk hn', hps_not hm]
omit [Gls] in
theorem ob_hget (s : σ) (h : Hp) (k i : Nat) : hget (Ob LC s h) k i = if i < (Ob LC s h k).base then none else (Ob LC s h k).blks[i - (Ob LC s h k).base]? := rfl
omit [Gls] in
theorem ob_hnext (s : σ) (h : Hp) (k : Nat) : hnext (Ob LC s h) k = (Ob LC s h k).base + (Ob LC s h k).blks.length := rfl
omit [Gls] in
theorem ob_hpush (hk : ∀ s, (LC s).map (·.1) = keys) {s : σ} {h : Hp} {k : Nat} (hn : keys.contains k = false) (B : Blk) : hpush (Ob LC s h) k B = Ob LC s (hpush h k B) := by
  funext j
  by_cases hj : j ∈ keys
  · have hne : j ≠ k := by rintro rfl; simp [List.contains_eq_mem, hj] at hn
    simp only [hpush, hne, if_false]
    exact hps_mem (by rw [hk]; exact hj)
  · have hj' : keys.contains j = false := by simpa [List.contains_eq_mem] using hj
    rw [ob_ne hk hj']
    simp only [hpush, ob_ne hk hn, ob_ne hk hj']
omit [Gls] in
theorem ob_hset (hk : ∀ s, (LC s).map (·.1) = keys) {s : σ} {h : Hp} {k i : Nat} (hn : keys.contains k = false) (B : Blk) : hset (Ob LC s h) k i B = Ob LC s (hset h k i B) := by
  funext j
  by_cases hj : j ∈ keys
  · have hne : j ≠ k := by rintro rfl; simp [List.contains_eq_mem, hj] at hn
    simp only [hset, hne, if_false]
    exact hps_mem (by rw [hk]; exact hj)
  · have hj' : keys.contains j = false := by simpa [List.contains_eq_mem] using hj
    rw [ob_ne hk hj']
    simp only [hset, ob_ne hk hn, ob_ne hk hj']
omit [Gls] in
theorem ob_hcut (hk : ∀ s, (LC s).map (·.1) = keys) {s : σ} {h : Hp} {k i : Nat} (hn : keys.contains k = false) : hcut (Ob LC s h) k i = Ob LC s (hcut h k i) := by
  funext j
  by_cases hj : j ∈ keys
  · have hne : j ≠ k := by rintro rfl; simp [List.contains_eq_mem, hj] at hn
    simp only [hcut, hne, if_false]
    exact hps_mem (by rw [hk]; exact hj)
  · have hj' : keys.contains j = false := by simpa [List.contains_eq_mem] using hj
    rw [ob_ne hk hj']
    simp only [hcut, ob_ne hk hn, ob_ne hk hj']
/-- A block of the object is written. -/
theorem ob_write {s s' : σ} {h : Hp} {k i : Nat} {B : Blk} (hk : ∀ s, (LC s).map (·.1) = keys) (hm : keys.contains k = true) (ho : ∀ j ∈ keys, j ≠ k → Ob LC s' h j = Ob LC s h j)
    (hw : Ob LC s' h k = { Ob LC s h k with blks := (Ob LC s h k).blks.set (i - (Ob LC s h k).base) B }) : hset (Ob LC s h) k i B = Ob LC s' h := by
  funext j
  by_cases hj : j = k
  · subst hj; simp only [hset, if_true]; exact hw.symm
  · simp only [hset, hj, if_false]
    by_cases hjk : j ∈ keys
    · exact (ho j hjk hj).symm
    · have hj' : keys.contains j = false := by simpa [List.contains_eq_mem] using hjk
      rw [ob_ne hk hj', ob_ne hk hj']
omit [Gls] in
theorem ob_mt {s : σ} {h : Hp} (hk : ∀ s, (LC s).map (·.1) = keys) : Mt LC keys s h ↔ h = Ob LC s h := by
  constructor
  · intro hm
    exact (hps_self fun k hkk => hm k (by rw [← hk s]; exact hkk)).symm
  · intro he k hkk
    have : h k = Ob LC s h k := congrFun he k
    rw [this]
    exact hps_mem (by rw [hk]; exact hkk)
omit [Gls] in
theorem ob_mt' {s : σ} {h : Hp} (hk : ∀ s, (LC s).map (·.1) = keys) : Mt LC keys s (Ob LC s h) := (ob_mt hk).2 (ob_ob hk s s h).symm
/-- Nothing less is told of the other sites. -/
theorem ob_hle {s : σ} {L L' : List (Nat × Site)} {H : Hp} (h : allK (fun k => sLe (hps L H k) (hps L' H k)) (L.map (·.1) ++ L'.map (·.1))) (hy : (L.map (·.1) ++ L'.map (·.1)).contains 999999999 = false := by first | rfl | simp) : HLe (Ob LC s (hps L H)) (Ob LC s (hps L' H)) := by
  have hb := hle_hpsb (H := H) h hy
  have hns : YS ∉ L.map (·.1) ++ L'.map (·.1) := by
    intro hm
    have : (L.map (·.1) ++ L'.map (·.1)).contains 999999999 = true := by simpa [List.contains_eq_mem] using hm
    rw [hy] at this; cases this
  refine .sites (fun k => ?_) ?_
  · by_cases hm : k ∈ (LC s).map (·.1)
    · have : Ob LC s (hps L' H) k = Ob LC s (hps L H) k := hps_mem hm
      rw [this]; exact .same rfl rfl
    · have e1 : Ob LC s (hps L' H) k = hps L' H k := hps_not hm
      have e2 : Ob LC s (hps L H) k = hps L H k := hps_not hm
      rw [e1, e2]
      by_cases hs : k ∈ L.map (·.1) ++ L'.map (·.1)
      · exact allK_mem h k hs
      · rw [List.mem_append, not_or] at hs
        rw [hps_not hs.1, hps_not hs.2]
        exact .same rfl rfl
  · by_cases hm : YS ∈ (LC s).map (·.1)
    · exact hps_mem hm
    · have e1 : Ob LC s (hps L' H) YS = hps L' H YS := hps_not hm
      have e2 : Ob LC s (hps L H) YS = hps L H YS := hps_not hm
      rw [e1, e2]
      exact hb.2
section
variable {D : Type}
open Classical in
/-- A contract of a function that works on the object. -/
noncomputable def obS (LC : σ → List (Nat × Site)) (keys : List Nat) (enc : σ → D → List V) (pre : σ → D → Hp → Prop) (res : σ → D → Hp → V) (nxt : σ → D → σ) (fin : σ → D → Hp → Hp) : HSpec where
  go args h := if x : ∃ p : σ × D, Mt LC keys p.1 h ∧ args = enc p.1 p.2 then ⟨pre x.choose.1 x.choose.2 h, res x.choose.1 x.choose.2 h, Ob LC (nxt x.choose.1 x.choose.2) (fin x.choose.1 x.choose.2 h)⟩ else bad h
variable {enc : σ → D → List V} {pre : σ → D → Hp → Prop} {res : σ → D → Hp → V} {nxt : σ → D → σ} {fin : σ → D → Hp → Hp}
omit [Gls] in
theorem obS_go (hk : ∀ s, (LC s).map (·.1) = keys) (inj : ∀ s s', (∀ k ∈ keys, hps (LC s) noH k = hps (LC s') noH k) → s = s') (ein : ∀ s d d', enc s d = enc s d' → d = d') (s : σ) (d : D) (h : Hp) :
    (obS LC keys enc pre res nxt fin).go (enc s d) (Ob LC s h) = ⟨pre s d (Ob LC s h), res s d (Ob LC s h), Ob LC (nxt s d) (fin s d (Ob LC s h))⟩ := by
  have x : ∃ p : σ × D, Mt LC keys p.1 (Ob LC s h) ∧ enc s d = enc p.1 p.2 := ⟨(s, d), ob_mt' hk, rfl⟩
  have e1 : x.choose.1 = s := inj _ _ fun k hkk => ((x.choose_spec.1 k hkk).symm.trans (ob_mt' (h := h) hk k hkk))
  have e2 : x.choose.2 = d := ein s _ _ (by have := x.choose_spec.2; rw [e1] at this; exact this.symm)
  simp only [obS, dif_pos x, e1, e2]
omit [Gls] in
theorem obS_inv (hk : ∀ s, (LC s).map (·.1) = keys) {args : List V} {h : Hp} (hc : ((obS LC keys enc pre res nxt fin).go args h).c) :
    ∃ s d, h = Ob LC s h ∧ args = enc s d ∧ pre s d h ∧ (obS LC keys enc pre res nxt fin).go args h = ⟨pre s d h, res s d h, Ob LC (nxt s d) (fin s d h)⟩ := by
  by_cases x : ∃ p : σ × D, Mt LC keys p.1 h ∧ args = enc p.1 p.2
  · simp only [obS, dif_pos x] at hc ⊢
    exact ⟨x.choose.1, x.choose.2, (ob_mt hk).1 x.choose_spec.1, x.choose_spec.2, hc, rfl⟩
  · simp only [obS, dif_neg x] at hc
    exact hc.elim
end
end
/-- These sites hold nothing. -/
def Blank (own : List Nat) (h : Hp) : Prop := ∀ k ∈ own, h k = { base := (h k).base, blks := [] }
/-- What was made at these sites is forgotten. -/
def bmp (own : List Nat) (n : Nat) (h : Hp) : Hp := hps (own.map fun k => (k, { base := (h k).base + n, blks := [] })) h
omit [Gls] in
theorem Blank.self {own : List Nat} {h : Hp} (hb : Blank own h) : h = hps (own.map fun k => (k, { base := (h k).base, blks := [] })) h := by
  refine (hps_self fun k hk => ?_).symm
  have hk' : k ∈ own := by simpa [List.map_map, Function.comp_def] using hk
  rw [hb k hk']
  clear hk
  induction own with
  | nil => cases hk'
  | cons a r ih =>
    simp only [List.map_cons, hps]
    by_cases e : k = a
    · subst e; rw [if_pos rfl]
    · rw [if_neg e]
      rcases List.mem_cons.1 hk' with h | h
      · exact absurd h e
      · exact ih (fun j hj => hb j (by simp [hj])) h
end Go.Sx
end
