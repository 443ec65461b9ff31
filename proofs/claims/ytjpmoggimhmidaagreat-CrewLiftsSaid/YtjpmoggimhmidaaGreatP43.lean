/- A part of a proof; no conditions. -/
import Derived.Test.YtjpmoggimhmidaaGreatP42
import Derived.Test.YtjpmoggimhmidaaGreatP19
import Derived.Shelf.GgSortFunc.RowK
import Derived.Sort.Grow
set_option linter.unusedSimpArgs false
set_option linter.unusedVariables false
set_option linter.unusedSectionVars false
section
/- Crew: duties in new memory, those of one person. No conditions. -/
set_option linter.unusedSimpArgs false
set_option linter.unusedSectionVars false
set_option maxRecDepth 100000
set_option maxHeartbeats 2000000
namespace Go.Sx
open Go.Proofs
attribute [local irreducible] HLe

/-! a copy -/
def cloS : HSpec where
  go args h := match args with
    | [.sl z els] => ⟨z = 3 ∧ els.length ≤ 1000000, .bsl 5105 (hnext h 5105) els.length, hpush h 5105 { z := 3, els := els, ty := 79 }⟩
    | _ => ⟨False, .top, h⟩
noncomputable abbrev E51 : Env := { P := Tryz.prog, fn := tbl [], own := [5], key := 5100, nt := 8 }
theorem b51 : HeapBodyG E51 [] Tryz.f51 cloS := by
  intro args h hc
  match args, hc with
  | [.sl z els], hc =>
    obtain ⟨rfl, hb⟩ := hc
    have hn := fun B => hget_push_new h 5105 B
    cases els with
    | nil =>
      simp -dsimp [Tryz.f51, E51, cloS]
      repeat' (first | omega | (simp -dsimp [E51, ri, cellp, ints, hn, hset_push]) | (refine Also.intro ?_ fun _ => ?_) | (refine Hold.intro fun _ => ?_) | (refine And.intro ?_ ?_))
      · exact ⟨_, .nil _ _ 2 5105 3 79 rfl (by decide) (by decide) (.refl _), rfl, rfl, HLe.refl _⟩
      · exact ⟨_, .refl _, rfl, rfl, HLe.refl _⟩
    | cons x els =>
      have hb' : els.length + 1 ≤ 1000000 := hb
      simp -dsimp [Tryz.f51, E51, cloS]
      repeat' (first | omega | (simp -dsimp [E51, ri, cellp, ints, hn, hb', hset_push]) | (refine Also.intro ?_ fun _ => ?_) | (refine Hold.intro fun _ => ?_) | (refine And.intro ?_ ?_))
      exact ⟨_, .refl _, rfl, rfl, HLe.refl _⟩
theorem ok51 : FnOK Tryz.prog 51 (.heap cloS) := heap_fnG (E := E51) rfl LOK.nil (ok := []) (fn := Tryz.f51) (by kernel_rfl) (by kernel_rfl) (by kernel_rfl) (by kernel_rfl) rfl (fun args h hc => by match args, hc with | [.sl z els], hc => simp) b51
theorem cloS_go (els : List (List V)) (h : Hp) : cloS.go [.sl 3 els] h = ⟨els.length ≤ 1000000, .bsl 5105 (hnext h 5105) els.length, hpush h 5105 { z := 3, els := els, ty := 79 }⟩ := by simp [cloS]

/-! all but those of one person are left out -/
def ofT (r : Ro) (n : Int) : List (Nat × Site) := [(3103, { base := 0, blks := [{ z := 6, els := [[.sl 3 (r.ppl.map Pn.row), .int .i64 r.lng, .int .i64 r.rst, .int .i64 r.win, .int .i64 r.tot, .int .i64 r.rcn]], ty := 57, fz := true }] }), (3106, { base := 0, blks := [{ z := 7, els := [[.nil, .int .i64 0, .int .i64 0, .int .i64 0, .int .i64 0, .int .i64 0, .nil]], ty := 83 }] }), (3105, { base := 0, blks := [{ z := 1, els := [[.int .i64 n]], ty := 3 }] })]
def ofH (d : Ro × List Du × Int) : Hp := hps ((5105, { base := 0, blks := [{ z := 3, els := d.2.1.map Du.row, ty := 79 }] }) :: ofT d.1 d.2.2) noH
open Classical in
noncomputable def dfV (l : List Du) (n : Int) : V := if idxZ l (Clo.oth n).t = -1 then .bsl 5105 0 l.length else .bsl 5041 0 (own l n).length
open Classical in
noncomputable def dfH (d : Ro × List Du × Int) : Hp := if idxZ d.2.1 (Clo.oth d.2.2).t = -1 then ofH d else hps ((5041, { base := 0, blks := [{ z := 3, els := (own d.2.1 d.2.2).map Du.row, ty := 79 }] }) :: (5007, { base := d.2.1.length, blks := [] }) :: (5105, { base := 1, blks := [] }) :: ofT d.1 d.2.2) noH
def dfE (d : Ro × List Du × Int) : List V := [.bsl 5105 0 d.2.1.length, .fn 52 [.bptr 3105 0 1 0 0]]
theorem df_inj (d d' : Ro × List Du × Int) (h : Hp) (_ : dfE d = dfE d') (h1 : h = ofH d) (h2 : h = ofH d') : d = d' := by
  obtain ⟨r, l, n⟩ := d; obtain ⟨r', l', n'⟩ := d'
  rw [h1] at h2
  have a1 := congrArg Site.blks (congrFun h2 3103)
  have a2 := congrArg Site.blks (congrFun h2 3105)
  have a3 := congrArg Site.blks (congrFun h2 5105)
  simp [ofH, ofT] at a1 a2
  simp only [ofH, hps_cons, if_true, List.cons.injEq, Blk.mk.injEq, and_true, true_and] at a3
  have e1 := Ro.row_inj r r' (by simpa [Ro.row, pplV] using a1)
  rw [e1, a2, mapRow_inj Du.row_inj a3]
noncomputable abbrev delS : HSpec := mkH dfE (fun d h => h = ofH d) (fun d => d.2.1.length ≤ 1000000) (fun d => dfV d.2.1 d.2.2) (fun d _ => dfH d)
theorem delS_go (r : Ro) (l : List Du) (n : Int) : delS.go [.bsl 5105 0 l.length, .fn 52 [.bptr 3105 0 1 0 0]] (hps [(5105, { base := 0, blks := [{ z := 3, els := l.map Du.row, ty := 79 }] }), (3103, { base := 0, blks := [{ z := 6, els := [[.sl 3 (r.ppl.map Pn.row), .int .i64 r.lng, .int .i64 r.rst, .int .i64 r.win, .int .i64 r.tot, .int .i64 r.rcn]], ty := 57, fz := true }] }), (3106, { base := 0, blks := [{ z := 7, els := [[.nil, .int .i64 0, .int .i64 0, .int .i64 0, .int .i64 0, .int .i64 0, .nil]], ty := 83 }] }), (3105, { base := 0, blks := [{ z := 1, els := [[.int .i64 n]], ty := 3 }] })] noH) = ⟨l.length ≤ 1000000, dfV l n, dfH (r, l, n)⟩ := mkH_at df_inj (d := (r, l, n)) rfl
theorem hps_d4 (a b c d : Site) : hps [(3103, a), (3106, b), (3105, c), (3103, d)] noH = hps [(3103, a), (3106, b), (3105, c)] noH := by
  funext k
  by_cases h : k = 3103
  · simp [h]
  · simp [h]
structure DfO (l : List Du) (n : Int) where
  j : Nat
  els : List Du
  hj : (own (l.take j) n).length < j ∧ j ≤ l.length
  hl : els.length = l.length
  ht : els.take (own (l.take j) n).length = own (l.take j) n
  hd : els.drop j = l.drop j
theorem own_all {l : List Du} {n : Int} (h : ∀ d ∈ l, d.p = n) : own l n = l := List.filter_eq_self.2 fun d hd => by simp [h d hd]
noncomputable abbrev E50 : Env := { P := Tryz.prog, fn := tbl [(52, .pure othS), (83, .pure duixS)], own := [41], key := 5000, nt := 42 }
theorem b50 : HeapBody E50 [] Tryz.f50 delS := by
  intro args h hc
  obtain ⟨⟨r, l, n⟩, rfl, rfl, hl, hgo⟩ := mkH_inv hc
  rw [hgo]
  clear hgo hc
  have hl : l.length ≤ 1000000 := hl
  · by_cases hi : idxZ l (Clo.oth n).t = -1
    · simp -dsimp [Tryz.f50, E50, dfE, ofH, ofT, dfV, dfH, hi]
      repeat' (first | omega | (simp -dsimp [E50, ri, cellp, ints, duxE_oth, hi, cellp, Clo.v, hl, hle_refl]) | (refine Also.intro ?_ fun _ => ?_) | (refine Hold.intro fun _ => ?_) | (refine And.intro ?_ ?_))
    · obtain ⟨k, hk, hz, hp, hbef⟩ := idxZ_some hi
      have hkn : ((k : Int) = -1) = False := eq_false (by omega)
      have wk1 : IntKind.wrap .i64 ((k : Int) + 1) = (k + 1 : Nat) := wrap_id (by omega) (by omega)
      have ho1 : own (l.take k) n = l.take k := own_all fun d hd => by
        obtain ⟨j, hj, rfl⟩ := List.getElem_of_mem hd
        have hjl : j < k := by rw [List.length_take] at hj; omega
        have := hbef j (by omega) hjl
        simpa [Clo.t] using this
      have ho2 : own (l.take (k + 1)) n = l.take k := by
        rw [take_snoc l hk, own, List.filter_append]
        have e : l.getD k default = l[k] := by simp [List.getD, hk]
        have hp' : ¬ l[k].p = n := by simpa [Clo.t] using hp
        rw [e]; simp only [List.filter_cons, hp', decide_false, Bool.false_eq_true, if_false, List.filter_nil, List.append_nil]; exact ho1
      have ho3 : (l.take k).length = k := by simp; omega
      have hn0 : 0 < l.length := by omega
      have hne : l ≠ [] := List.length_pos_iff.1 hn0
      have htk : List.take l.length (l.map Du.row) = l.map Du.row := List.take_of_length_le (by simp)
      have e1 : dfV l n = .bsl 5041 0 (own l n).length := if_neg hi
      have e2 : dfH (r, l, n) = hps ((5041, { base := 0, blks := [{ z := 3, els := (own l n).map Du.row, ty := 79 }] }) :: (5007, { base := l.length, blks := [] }) :: (5105, { base := 1, blks := [] }) :: ofT r n) noH := if_neg hi
      rw [e1, e2]
      simp -dsimp [Tryz.f50, E50, dfE, ofH, ofT]
      repeat' (first | omega | (simp -dsimp [E50, ri, cellp, ints, duxE_oth, hz, hkn, wk1, cellp, Clo.v, hne, hl, hn0, htk]) | (refine Also.intro ?_ fun _ => ?_) | (refine Hold.intro fun _ => ?_) | (refine And.intro ?_ ?_))
      refine awp_loop [16, 17, 18, 19, 22, 23, 24, 25, 7, 26, 27, 28, 29, 30, 31, 32, 33, 34, 35, 5, 20, 21, 6] (fun q : DfO l n => [(5, (true, .int .i64 ((own (l.take q.j) n).length : Nat))), (6, (true, .int .i64 (q.j : Nat)))])
        (fun q : DfO l n => hps [(5007, { base := q.j, blks := [] }), (5105, { base := 0, blks := [{ z := 3, els := q.els.map Du.row, ty := 79 }] }), (3103, { base := 0, blks := [{ z := 6, els := [[.sl 3 (r.ppl.map Pn.row), .int .i64 r.lng, .int .i64 r.rst, .int .i64 r.win, .int .i64 r.tot, .int .i64 r.rcn]], ty := 57, fz := true }] }), (3106, { base := 0, blks := [{ z := 7, els := [[.nil, .int .i64 0, .int .i64 0, .int .i64 0, .int .i64 0, .int .i64 0, .nil]], ty := 83 }] }), (3105, { base := 0, blks := [{ z := 1, els := [[.int .i64 n]], ty := 3 }] })] noH)
        (fun q : DfO l n => l.length - q.j) ⟨k + 1, l, by rw [ho2, ho3]; omega, rfl, by rw [ho2, ho3], rfl⟩ ?_ ?_ ?_
      · simp [okAll, okv, ho2, ho3]
      · exact (by (try simp -dsimp only [hpush_noH, hpush_hps, hps_over]); refine hle_hps ?_; simp -dsimp [allK, Ro.row, pplV]; repeat' (first | (refine And.intro ?_ ?_) | (refine sLe.same ?_ ?_ <;> (simp; done)) | (refine sLe.clear ?_ ?_ <;> (first | (simp; done) | (simp; omega))) | (refine sLe.drop 1 ?_ ?_ ?_ <;> (simp; done))))
      rintro ⟨j, els, ⟨hj1, hj2⟩, hel, hta, hdr⟩
      dsimp only
      by_cases hj : j < l.length
      · have hji : (j : Int) < l.length := by omega
        have wj : IntKind.wrap .i64 ((j : Int) + 1) = (j + 1 : Nat) := wrap_id (by omega) (by omega)
        obtain ⟨x, hx⟩ : ∃ x, els[j]? = some x := ⟨_, List.getElem?_eq_getElem (by omega)⟩
        have hx' : els[j]'(by omega) = x := get_of hx (by omega)
        have hxl : l[j]? = some x := by
          have := congrArg (fun q => q[0]?) hdr
          simpa [hx] using this.symm
        have hts : own (l.take (j + 1)) n = own (l.take j) n ++ (if x.p = n then [x] else []) := by
          rw [take_snoc l hj, own, List.filter_append]
          have e : l.getD j default = x := by simp [List.getD, hxl]
          rw [e, own]; by_cases hxn : x.p = n <;> simp [hxn]
        by_cases hxn : x.p = n
        · rw [if_pos hxn] at hts
          have hbe : (x.p != n) = false := by simp [hxn]
          generalize hio : (own (l.take j) n).length = i at *
          have wi : IntKind.wrap .i64 ((i : Int) + 1) = (i + 1 : Nat) := wrap_id (by omega) (by omega)
          have hii : i < l.length := by omega
          have hiI : (i : Int) < l.length := by omega
          obtain ⟨y, hy⟩ : ∃ y, els[i]? = some y := ⟨_, List.getElem?_eq_getElem (by omega)⟩
          have hy' : els[i]'(by omega) = y := get_of hy (by omega)
          simp -dsimp [hji]
          repeat' (first | omega | (simp -dsimp [E50, ri, cellp, ints, hji, hj, hx, hx', hy, hy', hel, hii, hiI, wj, wi, Du.row, othE_dec, hbe]) | (refine Also.intro ?_ fun _ => ?_) | (refine Hold.intro fun _ => ?_) | (refine And.intro ?_ ?_))
          have hset : List.set (els.map Du.row) i [V.int .i64 x.p, V.int .i64 x.a, V.int .i64 x.b] = (els.set i x).map Du.row := by rw [List.map_set]; rfl
          refine ⟨⟨j + 1, els.set i x, ?_, ?_, ?_, ?_⟩, tle_chain rfl ?_, ?_, ?_⟩
          · rw [hts]; simp; omega
          · simp; exact hel
          · rw [hts]; simp only [List.length_append, hio, List.length_singleton]
            rw [List.take_add_one, List.take_set_of_le (by omega), hta]
            simp [show i < els.length by omega]
          · rw [List.drop_set_of_lt (by omega), ← List.drop_drop, hdr, List.drop_drop]
          · simp [okAll, okv, hts, hio]
          · rw [hset]; exact (by (try simp -dsimp only [hpush_noH, hpush_hps, hps_over]); refine hle_hps ?_; simp -dsimp [allK, ]; repeat' (first | (refine And.intro ?_ ?_) | (refine sLe.same ?_ ?_ <;> (simp; done)) | (refine sLe.clear ?_ ?_ <;> (first | (simp; done) | (simp; omega))) | (refine sLe.drop 1 ?_ ?_ ?_ <;> (simp; done))))
          · dsimp only; omega
        · rw [if_neg hxn, List.append_nil] at hts
          have hbe : (x.p != n) = true := by simp [hxn]
          simp -dsimp [hji]
          repeat' (first | omega | (simp -dsimp [E50, ri, cellp, ints, hji, hj, hx, hx', hel, wj, Du.row, othE_dec, hbe]) | (refine Also.intro ?_ fun _ => ?_) | (refine Hold.intro fun _ => ?_) | (refine And.intro ?_ ?_))
          refine ⟨⟨j + 1, els, ?_, hel, ?_, ?_⟩, tle_chain rfl ?_, ?_, ?_⟩
          · rw [hts]; omega
          · rw [hts]; exact hta
          · rw [← List.drop_drop, hdr, List.drop_drop]
          · simp [okAll, okv, hts]
          · exact (by (try simp -dsimp only [hpush_noH, hpush_hps, hps_over]); refine hle_hps ?_; simp -dsimp [allK, ]; repeat' (first | (refine And.intro ?_ ?_) | (refine sLe.same ?_ ?_ <;> (simp; done)) | (refine sLe.clear ?_ ?_ <;> (first | (simp; done) | (simp; omega))) | (refine sLe.drop 1 ?_ ?_ ?_ <;> (simp; done))))
          · dsimp only; omega
      · have hjn : ¬ (j : Int) < l.length := by omega
        have hje : j = l.length := by omega
        subst hje
        rw [List.take_length] at hta hj1
        simp -dsimp [hjn]
        have hol := own_len l n
        have hfin : ∀ X : List (List V), List.take (own l n).length (List.take (own l n).length (els.map Du.row) ++ X) = (own l n).map Du.row := fun X => by
          rw [← List.map_take, hta, List.take_left' (by simp)]
        have hne' : ¬ els = [] := by intro e; rw [e] at hel; simp at hel; omega
        repeat' (first | omega | (simp -dsimp [E50, ri, cellp, ints, hel, hne, hne', hfin]) | (refine Also.intro ?_ fun _ => ?_) | (refine Hold.intro fun _ => ?_) | (refine And.intro ?_ ?_))
        exact (by (try simp -dsimp only [hpush_noH, hpush_hps, hps_over]); refine hle_hps ?_; simp -dsimp [allK, Ro.row, pplV]; repeat' (first | (refine And.intro ?_ ?_) | (refine sLe.same ?_ ?_ <;> (simp; done)) | (refine sLe.clear ?_ ?_ <;> (first | (simp; done) | (simp; omega))) | (refine sLe.drop 1 ?_ ?_ ?_ <;> (simp; done))))
theorem ok50 : FnOK Tryz.prog 50 (.heap delS) := heap_fn (E := E50) rfl (.cons ok52 (.cons ok83 .nil)) (ok := []) (fn := Tryz.f50) (by kernel_rfl) (by kernel_rfl) (by kernel_rfl) (by kernel_rfl) rfl (fun args h hc => by obtain ⟨d, rfl, _⟩ := mkH_inv hc; simp [dfE]) b50

/-! the duties of a person, with the roster -/
@[simp] def ofE (d : Ro × List Du × Int) : List V := [.agg d.1.row, .sl 3 (d.2.1.map Du.row), .int .i64 d.2.2]
theorem ofE_inj (a b : Ro × List Du × Int) (h : ofE a = ofE b) : a = b := by
  obtain ⟨a1, a2, a3⟩ := a; obtain ⟨b1, b2, b3⟩ := b
  simp only [ofE, List.cons.injEq, V.agg.injEq, V.sl.injEq, V.int.injEq, true_and, and_true] at h
  rw [Ro.row_inj _ _ h.1, mapRow_inj Du.row_inj h.2.1, h.2.2]
theorem ofE_dec (r : Ro) (l : List Du) (n : Int) : decC ofE [.agg [.sl 3 (r.ppl.map Pn.row), .int .i64 r.lng, .int .i64 r.rst, .int .i64 r.win, .int .i64 r.tot, .int .i64 r.rcn], .sl 3 (l.map Du.row), .int .i64 n] = (r, l, n) := decC_eq ofE_inj (r, l, n)
noncomputable abbrev ofS : PSpec := mkP ofE (fun d => d.2.1.length ≤ 1000000) fun d => .agg (bkRow d.1 (own d.2.1 d.2.2))
noncomputable abbrev E31 : Env := { P := Tryz.prog, fn := tbl [(51, .heap cloS), (50, .heap delS)], own := [], key := 3100, nt := 13, frz := [(1, [3, 50003])] }
theorem b31 : PureBody E31 [(1, ([0], [[0, 1, 2, 3, 4, 5, 6]]))] Tryz.f31 ofS := by
  refine pb ?_
  rintro ⟨r, l, n⟩ hl
  have hl : l.length ≤ 1000000 := hl
  have hd := delS_go r l n
  by_cases hi : idxZ l (Clo.oth n).t = -1
  · have hall : own l n = l := own_all fun d hd => by
      have hz := idxZ_any l (Clo.oth n).t
      rw [hi] at hz
      have := List.any_eq_false.1 hz.symm d hd
      simpa [Clo.t] using this
    simp -dsimp [Tryz.f31, E31, Ro.row, pplV, bkRow, hps_d4]
    repeat' (first | omega | (simp -dsimp [E31, ri, cellp, ints, FreeAt, cloS_go, hd, hl, hps_d4, dfV, dfH, ofH, ofT, hi, hall, bkRow]) | (refine Also.intro ?_ fun _ => ?_) | (refine Hold.intro fun _ => ?_) | (refine And.intro ?_ ?_))
  · simp -dsimp [Tryz.f31, E31, Ro.row, pplV, bkRow, hps_d4]
    repeat' (first | omega | (simp -dsimp [E31, ri, cellp, ints, FreeAt, cloS_go, hd, hl, hps_d4, dfV, dfH, ofH, ofT, hi, bkRow]) | (refine Also.intro ?_ fun _ => ?_) | (refine Hold.intro fun _ => ?_) | (refine And.intro ?_ ?_))
theorem ok31 : FnOK Tryz.prog 31 (.pure ofS) := pure_fn (E := E31) rfl (.cons ok51 (.cons ok50 .nil)) (ok := [(1, ([0], [[0, 1, 2, 3, 4, 5, 6]]))]) (fn := Tryz.f31) (by kernel_rfl) (by kernel_rfl) (by kernel_rfl) (by kernel_rfl) rfl (fun _ _ => by simp) b31
end Go.Sx
end
section
/- A sort of the library, as a contract on the heap. No conditions. -/
set_option linter.unusedSimpArgs false
namespace Go.Sx
open Go.RowKit Go.Proofs Go.Sort
variable [Gls]

section
variable {α : Type} [Inhabited α] (l : α → List Int)

/-- An element's cells: ints. -/
def intR (x : α) : List V := (l x).map (V.int .i64)
def intE (x : α) : List Value := (l x).map (Value.int .i64)

open Classical in
noncomputable def unR (row : List V) : α := if h : ∃ x, intR l x = row then h.choose else default
omit [Gls] in
variable {l} in
theorem unR_R (hinj : ∀ x y, l x = l y → x = y) (x : α) : unR l (intR l x) = x := by
  unfold unR
  have h : ∃ y, intR l y = intR l x := ⟨x, rfl⟩
  rw [dif_pos h]
  have hc := h.choose_spec
  refine hinj _ _ ?_
  unfold intR at hc
  have hm : ∀ a b : List Int, a.map (V.int .i64) = b.map (V.int .i64) → a = b := by
    intro a
    induction a with
    | nil => intro b h; cases b with
      | nil => rfl
      | cons => simp at h
    | cons x a ih => intro b h; cases b with
      | nil => simp at h
      | cons y b => simp only [List.map_cons, List.cons.injEq, V.int.injEq, true_and] at h; rw [h.1, ih b h.2]
  exact hm _ _ hc

/-- The sort's contract: it gets an owned slice, whole; its rows are sorted then by 'srt'. -/
noncomputable def sortS (k : Nat) (ty : TypeId) (srt : Array α → Array α) (ex : List V) : HSpec where
  go args h := match args with
    | .bsl s i n :: r => match hget h s i with
      | some B => ⟨r = ex ∧ B.fz = false ∧ B.z = k ∧ B.ty = ty ∧ n = B.els.length ∧ 1 ≤ n ∧ n < 4611686018427387904 ∧ ∃ d : List α, B.els = d.map (intR l), .tup [], hset h s i { B with els := (srt (B.els.map (unR l)).toArray).toList.map (intR l) }⟩
      | none => ⟨False, .top, h⟩
    | _ => ⟨False, .top, h⟩

omit [Gls] in
theorem intR_get {α : Type} (l : α → List Int) {x : α} {j : Nat} {c : V} (h : (intR l x)[j]? = some c) : ∃ n, c = .int .i64 n ∧ (intE l x)[j]! = .int .i64 n ∧ j < (l x).length := by
  unfold intR at h
  rw [List.getElem?_map] at h
  cases hj : (l x)[j]? with
  | none => simp [hj] at h
  | some n =>
    rw [hj] at h
    simp only [Option.map_some, Option.some.injEq] at h
    refine ⟨n, h.symm, ?_, (List.getElem?_eq_some_iff.1 hj).1⟩
    unfold intE
    rw [List.getElem!_eq_getElem?_getD, List.getElem?_map, hj]; rfl

theorem sort_ok {P : Program} {f : FuncId} {k : Nat} {ty : TypeId} {srt : Array α → Array α} {ex : List V} {exv : List Value}
    (hcall : ∀ (args : Array Value) (w : World), (callFunc f args).run P w = .ok (.enter f args) w) (hk : ∀ x, (l x).length = k) (hk0 : 0 < k) (hinj : ∀ x y, l x = l y → x = y) (hsize : ∀ d, (srt d).size = d.size)
    (hexv : ∀ (w : World) (A : Nat → Prop) (X : Refs) (u : List Value), u.length = ex.length → (∀ i c, ex[i]? = some c → RV w A X c (u.getD i und)) → u = exv)
    (hsort : ∀ (blk off cap : Nat) (d : Array α) (w : World), HoldsK (intE l) k w blk off d → blk < w.heap.size → 1 ≤ d.size → d.size < 4611686018427387904 →
      Calls P f (Value.slice (some ⟨blk, off, none⟩) d.size cap :: exv).toArray w fun e w' => e = .returned (.tuple #[]) ∧ ∃ n os, w' = Go.Sort.grow (putRowK (intE l) k (Sort.ahead w n) blk off (srt d)) os) :
    FnOK P f (.heap (sortS l k ty srt ex)) := by
  refine { call := hcall, iter := fun S' h => (by cases h), pure := fun S' hS => (by cases hS), heap := fun S' hS => ?_ }
  cases hS
  intro args h hc w A X vals hI hsz hargs
  match args, hc with
  | [], hc => exact hc.elim
  | x :: r, hc =>
  cases x with
  | bsl s i n =>
    cases hB : hget h s i with
    | none => simp [sortS, hB] at hc
    | some B =>
      have hgo : (sortS l k ty srt ex).go (.bsl s i n :: r) h = ⟨r = ex ∧ B.fz = false ∧ B.z = k ∧ B.ty = ty ∧ n = B.els.length ∧ 1 ≤ n ∧ n < 4611686018427387904 ∧ ∃ d : List α, B.els = d.map (intR l), .tup [], hset h s i { B with els := (srt (B.els.map (unR l)).toArray).toList.map (intR l) }⟩ := by simp only [sortS, hB]
      rw [hgo] at hc ⊢
      obtain ⟨hr, hfz, hz, hty, hn, h1, h62, d, hd⟩ := hc
      subst hr
      have hun : B.els.map (unR l) = d := by
        rw [hd, List.map_map]
        have : (unR l ∘ intR l) = id := funext fun x => unR_R hinj x
        rw [this, List.map_id]
      simp only [hun]
      have hdl : d.length = n := by rw [hn, hd, List.length_map]
      obtain ⟨a, c, e0, hN, hnl, hv⟩ := (hargs 0 (.bsl s i n) rfl).bsl_inv
      have hb := hI.blk s i B hB
      have hv' := hv (by rw [hb.hlen, hn])
      rcases hb.mem with ⟨_, hnil⟩ | ⟨arr, cap, g1, g2, g3, g4, g5, g6, g7, g8⟩
      · rw [hnil] at hn; simp at hn; omega
      have hvals : vals = (Value.slice (some ⟨(X.D s i).b, (X.D s i).o, none⟩) d.toArray.size cap :: exv).toArray := by
        have hx := hexv w A X (vals.toList.drop 1) (by simp at hsz ⊢; omega) (fun j c hj => by
          have := hargs (j + 1) c (by simpa using hj)
          rw [List.getD_eq_getElem?_getD, List.getElem?_drop, Array.getElem?_toList, Nat.add_comm 1 j]
          rwa [Array.getD_eq_getD_getElem?] at this)
        have h0 : vals.getD 0 und = Value.slice (some ⟨(X.D s i).b, (X.D s i).o, none⟩) d.toArray.size cap := by
          rw [e0, hv', g2]; simp only [List.size_toArray, hdl, hn]
        apply Array.toList_inj.1
        rw [← hx]
        cases hvl : vals.toList with
        | nil => have := congrArg List.length hvl; simp at this hsz; simp [this] at hsz
        | cons y ys =>
          have : vals.getD 0 und = y := by rw [Array.getD_eq_getD_getElem?, ← Array.getElem?_toList, hvl]; rfl
          rw [← h0, this]; simp
      have hdsz : d.toArray.size = n := by simpa using hdl
      have hlt : (X.D s i).b < w.heap.size := (Array.getElem?_eq_some_iff.1 g1).1
      have hH : HoldsK (intE l) k w (X.D s i).b (X.D s i).o d.toArray := by
        intro j hj
        rw [size_flatK] at hj
        have hj' := hj
        rw [get_flatK _ _ _ _ hj']
        have he : j / k < d.length := by rw [hdl, ← hdsz]; exact Nat.div_lt_of_lt_mul (by rw [Nat.mul_comm]; exact hj)
        have hm : j % k < k := Nat.mod_lt _ hk0
        have e1 : B.els[j / k]? = some (intR l d[j / k]) := by rw [hd, List.getElem?_map, List.getElem?_eq_getElem he]; rfl
        have e2 : (intR l d[j / k])[j % k]? = some (.int .i64 ((l d[j / k])[j % k]'(by rw [hk]; exact hm))) := by
          unfold intR; rw [List.getElem?_map, List.getElem?_eq_getElem (by rw [hk]; exact hm)]; rfl
        obtain ⟨u, u1, u2, u3, u4⟩ := g6 _ _ _ _ e1 e2
        have u5 := u3.int_inv
        have hjk : (X.D s i).o + j / k * k + j % k = (X.D s i).o + j := by have := Nat.div_add_mod j k; rw [Nat.mul_comm] at this; omega
        rw [hz, hjk] at u1
        obtain ⟨m, m1, m2, _⟩ := intR_get l e2
        have e3 : d.toArray[j / k]! = d[j / k] := by simp [he]
        refine ⟨?_, ?_⟩
        · unfold World.cell?
          simp only [g1, Option.isSome_none, Bool.false_eq_true, if_false]
          injection m1 with _ m3
          rw [u1, u5, e3, m2, m3]; rfl
        · unfold World.frozen?
          simp [g1]
      rw [hvals]
      refine (hsort _ _ _ d.toArray w hH hlt (by omega) (by omega)).mono ?_
      rintro e w' ⟨rfl, q, os, rfl⟩
      have hs' := hsize d.toArray
      generalize hdd : srt d.toArray = d' at *
      have hd'n : d'.size = n := by omega
      have hB' : ({ B with els := d'.toList.map (intR l) } : Blk) = { B with els := d'.toList.map (intR l) } := rfl
      have hw1 : (putRowK (intE l) k w (X.D s i).b (X.D s i).o d').heap[(X.D s i).b]? = some (.cells (putCells id (X.D s i).o (flatK (intE l) k d') arr) B.ty (0, 0)) := by
        simp only [putRowK, putRow, mapBlock, Array.getElem?_modify, if_true, g1, Option.map_some, onCells]
      obtain ⟨hL, hI1⟩ := hI.turn (B' := { B with els := d'.toList.map (intR l) }) hB (w' := putRowK (intE l) k w (X.D s i).b (X.D s i).o d') (by simp [putRowK, putRow, mapBlock]) rfl rfl rfl hfz (by rw [Hd.real, g2]; simp)
        (fun b hne => by simp only [putRowK, putRow, mapBlock, Array.getElem?_modify]; rw [if_neg (fun e => hne e.symm)])
        (fun hL => { hN := hN, hz := hb.hz, hlen := by rw [hb.hlen]; simp; omega, rows := fun row hrow => by
                       obtain ⟨x, _, rfl⟩ := List.mem_map.1 hrow
                       simp [intR, hk, hz]
                     mem := .inr ⟨_, cap, hw1, by rw [g2]; simp; omega, by simp; omega, g4, by
                       have : (putCells id (X.D s i).o (flatK (intE l) k d') arr).size = arr.size := by simp [putCells]
                       rw [this]; exact g5, fun e j row c he hj => by
                         simp only at he
                         rw [List.getElem?_map] at he
                         cases hx : d'.toList[e]? with
                         | none => simp [hx] at he
                         | some x =>
                         rw [hx] at he
                         simp only [Option.map_some, Option.some.injEq] at he
                         subst he
                         obtain ⟨m, m1, m2, m3⟩ := intR_get l hj
                         rw [hk] at m3
                         have hel : e < d'.size := by have := (List.getElem?_eq_some_iff.1 hx).1; simpa using this
                         have hbnd : e * k + j < d'.size * k := by
                           have := Nat.mul_le_mul_right k (show e + 1 ≤ d'.size from hel); rw [Nat.add_mul, Nat.one_mul] at this; omega
                         have hin : (X.D s i).o + e * k + j < arr.size := by
                           have hcz := g5
                           rw [hz] at hcz
                           have : d'.size * k ≤ cap * k := Nat.mul_le_mul_right k (by omega)
                           omega
                         refine ⟨.int .i64 m, ?_, rfl, ?_, fun _ => ?_⟩
                         · rw [hz]
                           simp only [putCells, Array.getElem?_mapIdx, Array.getElem?_eq_getElem hin, Option.map_some, size_flatK]
                           rw [if_pos ⟨by omega, by omega⟩, show (X.D s i).o + e * k + j - (X.D s i).o = e * k + j by omega, get_flatK _ _ _ _ hbnd]
                           have e1 : (e * k + j) / k = e := (blk_iff k e _ hk0).1 ⟨by omega, by omega⟩
                           have e2 : (e * k + j) % k = j := by rw [Nat.mod_eq_sub_div_mul, e1]; omega
                           rw [e1, e2]
                           have e3 : d'[e]! = x := by
                             rw [Array.getElem?_toList] at hx
                             rw [getElem!_def, hx]
                           rw [e3, m2]; rfl
                         · rw [m1]; exact .pure (.int _ _)
                         · rw [m1]; exact .int _ _, g7, g8⟩ })
      obtain ⟨_, hI2⟩ := hI1.below (w' := Go.Sort.grow (putRowK (intE l) k (Sort.ahead w q) (X.D s i).b (X.D s i).o d') os) { os := rfl, tape := rfl, output := rfl, size := by simp [Go.Sort.grow, putRowK, putRow, mapBlock, Sort.ahead], block := (fun b hlt => by
        simp only [Go.Sort.grow, putRowK, putRow, mapBlock, Sort.ahead] at hlt ⊢
        rw [Array.getElem?_append_left hlt]) }
      exact ⟨_, A, X, rfl, hI2, .pure (.tup [] #[] rfl (fun i c h => by simp at h))⟩
  | _ => exact hc.elim
end
end Go.Sx
end
