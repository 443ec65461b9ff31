/- A part of a proof; no conditions. -/
import Derived.Test.YtjpmoggimhmidaaGreatP37
import Derived.Test.YtjpmoggimhmidaaGreatP23
set_option linter.unusedSimpArgs false
set_option linter.unusedVariables false
set_option linter.unusedSectionVars false
section
/- Rotor: copies of tables and rotors. No conditions. -/
set_option linter.unusedSimpArgs false
set_option linter.unusedSectionVars false
set_option maxRecDepth 100000
set_option maxHeartbeats 16000000
namespace Go.Sx.Rot
open Go.Proofs Go.Sx Go.Sx.Tab
attribute [local irreducible] HLe
attribute [local simp] hps_app

structure CpP (t : Tb) : Prop where
  x : t.xs.length ≤ 15
  y : t.ys.length ≤ 15
  v : t.vs.length ≤ 15
  r : ∀ r ∈ t.vs, r.length ≤ 15
theorem cp_of {t : Tb} (h : farT t = false) : CpP t := by
  simp only [farT, Bool.or_eq_false_iff, decide_eq_false_iff_not, List.any_eq_false, rowN, decide_eq_true_eq] at h
  obtain ⟨h1, h2, h3, h4⟩ := h
  exact ⟨by omega, by omega, by omega, fun r hr => by have := h4 r hr; omega⟩
noncomputable abbrev cpyS : PSpec := mkP tbE CpP fun t => .agg (tabR t)
def cpO (t : Tb) (w : V) : Site := { base := 0, blks := [{ z := 3, els := [[.sl 1 (t.xs.map ri), .sl 1 (t.ys.map ri), w]], ty := 25, cl := w.refFree }] }
def cpT (t : Tb) : Site := { base := 0, blks := [{ z := 3, els := [[.sl 1 (t.xs.map ri), .sl 1 (t.ys.map ri), .sl 1 (t.vs.map rwI)]], ty := 25, fz := true }] }
def cpW (k : Nat) : V := if k = 0 then .nil else .bsl 2131 0 k
def cpB (l : List (List Int)) : List Blk := if l.length = 0 then [] else [{ z := 1, els := l.map rwI, ty := 22 }]
def cpN : Site := { base := 0, blks := [{ z := 3, els := [[.nil, .nil, .nil]], ty := 25 }] }
def cpH (t : Tb) (k : Nat) : Hp := hps [(2131, { base := 0, blks := cpB (t.vs.take k) }), (2103, cpO t (cpW k)), (2102, cpN), (2101, cpT t)] noH
noncomputable abbrev E21 : Env := { P := Tryz.prog, fn := tbl [], own := [500005, 500009, 500023, 600008, 600012, 600029], key := 2100, nt := 34, frz := [(1, [1])] }
theorem b21 : PureBody E21 [(1, ([1002, 1006, 3, 7], [[0, 1, 2, 3, 4, 5, 6, 7, 8, 9, 10]])), (5, ([8], [[0, 1, 2, 3, 4, 5, 6, 7, 8, 9, 10, 11, 12]]))] Tryz.f21 cpyS := by
  refine pb ?_
  rintro t ⟨hx, hy, hv, hr⟩
  simp -dsimp [Tryz.f21, E21, tabR]
  repeat' (first | omega | (simp -dsimp [E21, ri, cellp, ints, FzOk, FreeAt, hx, hy]) | (refine Also.intro ?_ fun _ => ?_) | (refine Hold.intro fun _ => ?_) | (refine And.intro ?_ ?_))
  refine awp_loop [14, 15, 16, 17, 18, 21, 22, 23, 24, 25, 26, 27, 28, 29, 30, 31, 32, 19, 20, 4] (fun k : { k : Nat // k ≤ t.vs.length } => [(4, (true, .int .i64 k.1))]) (fun k => cpH t k.1) (fun k => t.vs.length - k.1) ⟨0, by omega⟩ ?_ ?_ ?_
  · simp [okAll, okv]
  · exact (by (try simp -dsimp only [hpush_noH, hpush_hps, hps_over]); refine hle_hps ?_; simp -dsimp [allK, cpH, cpO, cpT, cpN, cpW, cpB, V.refFree]; repeat' (first | (refine And.intro ?_ ?_) | (refine sLe.same ?_ ?_ <;> (simp; done)) | (refine sLe.clear ?_ ?_ <;> (first | (simp; done) | (simp; omega))) | (refine sLe.drop 1 ?_ ?_ ?_ <;> (simp; done))))
  rintro ⟨k, hk⟩
  dsimp only
  by_cases hk1 : k < t.vs.length
  · have hki : (k : Int) < t.vs.length := by omega
    have wk : IntKind.wrap .i64 ((k : Int) + 1) = (k + 1 : Nat) := wrap_id (by omega) (by omega)
    obtain ⟨x, hx, hx'⟩ := get_ex hk1
    have hl : x.length ≤ 15 := hr x (hx' ▸ List.getElem_mem hk1)
    have ht : t.vs.take (k + 1) = t.vs.take k ++ [x] := by rw [List.take_add_one, hx]; rfl
    have hn : (t.vs.take k).length = k := by rw [List.length_take]; omega
    by_cases h0 : k = 0
    · subst h0
      have wone : IntKind.wrap .i64 1 = 1 := by decide
      have hB1 : cpB (t.vs.take 1) = [{ z := 1, els := [rwI x], ty := 22 }] := by
        have e : t.vs.take 1 = [x] := by simpa using ht
        rw [e]; rfl
      have hW1 : cpW 1 = .bsl 2131 0 1 := rfl
      have hB0 : cpB [] = [] := rfl
      have hW0 : cpW 0 = .nil := rfl
      simp -dsimp [hki]
      repeat' (first | omega | (simp -dsimp [E21, ri, cellp, ints, hki, hk1, hx, hx', rwI, cpH, cpO, cpT, cpN, hB0, hW0, V.refFree, wk, wone, hl, FreeAt]) | (refine Also.intro ?_ fun _ => ?_) | (refine Hold.intro fun _ => ?_) | (refine And.intro ?_ ?_))
      refine ⟨1, tle_chain rfl ?_, ?_, by omega, by omega⟩
      · simp [okAll, okv]
      · exact (by (try simp -dsimp only [hpush_noH, hpush_hps, hps_over]); refine hle_hps ?_; simp -dsimp [allK, cpH, cpO, cpT, cpN, hB1, hW1, V.refFree, rwI, ints]; repeat' (first | (refine And.intro ?_ ?_) | (refine sLe.same ?_ ?_ <;> (simp; done)) | (refine sLe.clear ?_ ?_ <;> (first | (simp; done) | (simp; omega))) | (refine sLe.drop 1 ?_ ?_ ?_ <;> (simp; done))))
    · have h0' : t.vs.take k ≠ [] := fun e => by rw [e] at hn; simp at hn; omega
      have hB : cpB (t.vs.take k) = [{ z := 1, els := (t.vs.take k).map rwI, ty := 22 }] := by unfold cpB; rw [if_neg (by omega)]
      have hB1 : cpB (t.vs.take (k + 1)) = [{ z := 1, els := (t.vs.take k).map rwI ++ [rwI x], ty := 22 }] := by unfold cpB; rw [if_neg (by rw [ht, List.length_append, hn]; simp), ht, List.map_append]; rfl
      have hW : cpW k = .bsl 2131 0 k := if_neg h0
      have hW1 : cpW (k + 1) = .bsl 2131 0 (k + 1) := if_neg (by omega)
      have hnm : ((t.vs.take k).map rwI).length = k := by rw [List.length_map, hn]
      generalize (t.vs.take k).map rwI = A at *
      simp -dsimp [hki, cpH, hB, hW]
      repeat' (first | omega | (simp -dsimp [E21, ri, cellp, ints, hki, hk1, hx, hx', rwI, cpH, cpO, cpT, cpN, hB, hW, V.refFree, wk, hl, hnm, FreeAt]) | (refine Also.intro ?_ fun _ => ?_) | (refine Hold.intro fun _ => ?_) | (refine And.intro ?_ ?_))
      refine ⟨k + 1, tle_chain rfl ?_, ?_, by omega, by omega⟩
      · simp [okAll, okv]
      · exact (by (try simp -dsimp only [hpush_noH, hpush_hps, hps_over]); refine hle_hps ?_; simp -dsimp [allK, cpH, cpO, cpT, cpN, hB1, hW1, V.refFree, rwI, ints]; repeat' (first | (refine And.intro ?_ ?_) | (refine sLe.same ?_ ?_ <;> (simp; done)) | (refine sLe.clear ?_ ?_ <;> (first | (simp; done) | (simp; omega))) | (refine sLe.drop 1 ?_ ?_ ?_ <;> (simp; done))))
  · have hkn : ¬ (k : Int) < t.vs.length := by omega
    have hk2 : k = t.vs.length := by omega
    subst hk2
    have hW : t.vs.take t.vs.length = t.vs := List.take_length
    by_cases h0 : t.vs.length = 0
    · have h0' : t.vs = [] := List.eq_nil_of_length_eq_zero h0
      simp -dsimp [hkn, cpH, hW]
      repeat' (first | omega | (simp -dsimp [E21, ri, cellp, ints, hkn, cpH, hW, cpO, cpT, cpN, cpW, cpB, V.refFree, h0']) | (refine Also.intro ?_ fun _ => ?_) | (refine Hold.intro fun _ => ?_) | (refine And.intro ?_ ?_))
    · simp -dsimp [hkn, cpH, hW]
      repeat' (first | omega | (simp -dsimp [E21, ri, cellp, ints, hkn, cpH, hW, cpO, cpT, cpN, cpW, cpB, V.refFree, h0]) | (refine Also.intro ?_ fun _ => ?_) | (refine Hold.intro fun _ => ?_) | (refine And.intro ?_ ?_))
theorem ok21 : FnOK Tryz.prog 21 (.pure cpyS) := pure_fn (E := E21) rfl LOK.nil (ok := [(1, ([1002, 1006, 3, 7], [[0, 1, 2, 3, 4, 5, 6, 7, 8, 9, 10]])), (5, ([8], [[0, 1, 2, 3, 4, 5, 6, 7, 8, 9, 10, 11, 12]]))]) (fn := Tryz.f21) (by kernel_rfl) (by kernel_rfl) (by kernel_rfl) (by kernel_rfl) rfl (fun _ _ => by simp) b21
structure CrP (r : Ro) : Prop where
  l : ∀ x ∈ limL r, CpP x.t
noncomputable abbrev rcpS : PSpec := mkP roE CrP fun r => .agg r.row
noncomputable abbrev E7 : Env := { P := Tryz.prog, fn := tbl [(21, .pure cpyS)], own := [], key := 700, nt := 38 }
theorem b7 : PureBody E7 [] Tryz.f7 rcpS := by
  refine pb ?_
  rintro r hP
  have d0 := far_dec r.h
  have d1 := far_dec r.g
  have d2 := far_dec r.l
  have d3 := far_dec r.p
  have d4 := far_dec r.n
  have d5 := far_dec r.rl
  have d6 := far_dec r.rh
  have d7 := far_dec r.gl
  have p0 : CpP r.h := hP.l ⟨r.h, 0, 100000⟩ (by simp [limL])
  have p1 : CpP r.g := hP.l ⟨r.g, 0, 100⟩ (by simp [limL])
  have p2 : CpP r.l := hP.l ⟨r.l, 0, 100000⟩ (by simp [limL])
  have p3 : CpP r.p := hP.l ⟨r.p, 0, 100000⟩ (by simp [limL])
  have p4 : CpP r.n := hP.l ⟨r.n, 0, 10000⟩ (by simp [limL])
  have p5 : CpP r.rl := hP.l ⟨r.rl, 0, 10000⟩ (by simp [limL])
  have p6 : CpP r.rh := hP.l ⟨r.rh, 0, 10000⟩ (by simp [limL])
  have p7 : CpP r.gl := hP.l ⟨r.gl, 1, 10000⟩ (by simp [limL])
  have s0 : V.sl 1 (r.h.xs.map ri) :: .sl 1 (r.h.ys.map ri) :: .sl 1 (r.h.vs.map rwI) :: r.row.drop 3 = r.row := rfl
  have s1 : r.row.take 3 ++ (V.sl 1 (r.g.xs.map ri) :: .sl 1 (r.g.ys.map ri) :: .sl 1 (r.g.vs.map rwI) :: r.row.drop 6) = r.row := rfl
  have s2 : r.row.take 6 ++ (V.sl 1 (r.l.xs.map ri) :: .sl 1 (r.l.ys.map ri) :: .sl 1 (r.l.vs.map rwI) :: r.row.drop 9) = r.row := rfl
  have s3 : r.row.take 9 ++ (V.sl 1 (r.p.xs.map ri) :: .sl 1 (r.p.ys.map ri) :: .sl 1 (r.p.vs.map rwI) :: r.row.drop 12) = r.row := rfl
  have s4 : r.row.take 12 ++ (V.sl 1 (r.n.xs.map ri) :: .sl 1 (r.n.ys.map ri) :: .sl 1 (r.n.vs.map rwI) :: r.row.drop 15) = r.row := rfl
  have s5 : r.row.take 15 ++ (V.sl 1 (r.rl.xs.map ri) :: .sl 1 (r.rl.ys.map ri) :: .sl 1 (r.rl.vs.map rwI) :: r.row.drop 18) = r.row := rfl
  have s6 : r.row.take 18 ++ (V.sl 1 (r.rh.xs.map ri) :: .sl 1 (r.rh.ys.map ri) :: .sl 1 (r.rh.vs.map rwI) :: r.row.drop 21) = r.row := rfl
  have s7 : r.row.take 21 ++ (V.sl 1 (r.gl.xs.map ri) :: .sl 1 (r.gl.ys.map ri) :: .sl 1 (r.gl.vs.map rwI) :: r.row.drop 24) = r.row := rfl
  simp -dsimp [Tryz.f7, E7]
  repeat' (first | omega | (simp -dsimp [E7, ri, cellp, ints, s0, s1, s2, s3, s4, s5, s6, s7, d0, d1, d2, d3, d4, d5, d6, d7, p0, p1, p2, p3, p4, p5, p6, p7, tabR]) | (refine Also.intro ?_ fun _ => ?_) | (refine Hold.intro fun _ => ?_) | (refine And.intro ?_ ?_))
  all_goals
    have e : List.drop 24 r.row = [.int .i64 r.climb, .int .i64 r.burn] := rfl
    rw [e]
    rintro x hx
    simp only [List.take, List.mem_cons, List.not_mem_nil, or_false] at hx
    rcases hx with rfl | rfl <;> rfl
theorem ok7 : FnOK Tryz.prog 7 (.pure rcpS) := pure_fn (E := E7) rfl (.cons ok21 .nil) (ok := []) (fn := Tryz.f7) (by kernel_rfl) (by kernel_rfl) (by kernel_rfl) (by kernel_rfl) rfl (fun _ _ => by simp) b7
end Go.Sx.Rot
end
section
/- Crew, plain: the rules as the program computes them, with numbers that wrap; of valid duties they are the plain ones. No conditions. -/
set_option linter.unusedSimpArgs false
set_option linter.unusedSectionVars false
namespace Go.Sx
abbrev wr (n : Int) : Int := IntKind.wrap .i64 n
def strW (a b : Int) : Bool := decide (0 ≤ a ∧ a ≤ wr (b - 1)) && decide (b ≤ 2000)
def restW (r : Ro) (x y : Du) : Bool := if y.a < x.a then decide (wr (y.b + r.rst) ≤ x.a) else decide (wr (x.b + r.rst) ≤ y.a)
def nearW (r : Ro) (x d : Du) : Bool := decide (0 ≤ wr (x.a - d.b) ∧ wr (x.a - d.b) ≤ r.rcn)
def recW (r : Ro) (o : List Du) (x : Du) : Bool := decide (x.a ≤ r.rcn) || o.any (nearW r x)
def swpW (to : Int) : List Du → Int → Int → Int
  | [], _, n => n
  | d :: r, done, n => if max d.a done < min d.b to then swpW to r (min d.b to) (wr (n + wr (min d.b to - max d.a done))) else swpW to r done n
section
variable (srt : List Du → List Du)
/-- In how many ticks of a window one works; the duties are sorted so. -/
def wkW (l : List Du) (x y : Int) : Int := swpW y (srt l) x 0
def totW (l : List Du) (W T : Int) : Bool := l.all fun d => decide (wkW srt l d.a (wr (d.a + W)) ≤ T) && decide (wkW srt l (wr (d.b - W)) d.b ≤ T)
def brkW (r : Ro) (o : List Du) (x : Du) : List Int :=
  (if (o.any fun d => !restW r d x) = true then [3] else []) ++ (if r.lng < wr (x.b - x.a) then [4] else []) ++ (if totW srt (o ++ [x]) r.win r.tot = true then [] else [5]) ++ (if recW r o x = true then [] else [6])
def duOkW (r : Ro) (l : List Du) (i : Nat) : Bool :=
  decide (0 ≤ (duAt l i).p ∧ (duAt l i).p ≤ r.ppl.length - 1) && strW (duAt l i).a (duAt l i).b && (decide (i = 0) || decide ((duAt l (i - 1)).a ≤ (duAt l i).a)) && (brkW srt r (own (l.take i) (duAt l i).p) (duAt l i)).isEmpty
def badDuW (r : Ro) (l : List Du) : Int := idxZ (List.range l.length) fun i => !duOkW srt r l i
def chkEW (r : Ro) (l : List Du) : Int × Int := if r.ok = true then (if 60 < l.length then (0, 2) else if 0 ≤ badDuW srt r l then (badDuW srt r l, 101) else (0, 0)) else (0, 100)
def whyW (r : Ro) (l : List Du) (n : Int) (c : Cl) : List Int :=
  (if bit1 (pnAt r n).rat c.craft = true then [] else [1]) ++ (if c.water = true ∧ (pnAt r n).dive < c.b then [2] else []) ++ brkW srt r (own l n) ⟨n, c.a, c.b⟩
def callW (c : Cl) : Bool := strW c.a c.b && decide (0 ≤ c.craft ∧ c.craft ≤ 7)
def chk2W (r : Ro) (l : List Du) (b : Bool) : Int := if (chkEW srt r l).2 = 0 then (if b = true then 0 else 1) else (chkEW srt r l).2
def mayW (r : Ro) (l : List Du) (c : Cl) (i k : Nat) : Bool := decide (i ≠ k) && (decide (2 ≤ (pnAt r i).rank) && (whyW srt r l i c).isEmpty) && (decide (1 ≤ (pnAt r k).rank) && (whyW srt r l k c).isEmpty)
def crwW (r : Ro) (l : List Du) (c : Cl) : List (Int × Int) :=
  (List.range r.ppl.length).flatMap fun i : Nat => ((List.range r.ppl.length).filter fun k : Nat => mayW srt r l c i k).map fun k : Nat => ((i : Int), (k : Int))
/-- The end of the longest duty that begins at a tick: from above. -/
def untW (r : Ro) (o : List Du) (n a : Int) : Nat → Int
  | 0 => 0
  | k + 1 => if (brkW srt r o ⟨n, a, a + (k + 1 : Nat)⟩).isEmpty = true then a + (k + 1 : Nat) else untW r o n a k
end
/-- A sort by the beginnings. -/
structure SrtOk (srt : List Du → List Du) : Prop where
  perm : ∀ l, (∀ d ∈ l, 0 ≤ d.a ∧ d.a ≤ 9223372036854775807) → (srt l).Perm l
  sort : ∀ l, (∀ d ∈ l, 0 ≤ d.a ∧ d.a ≤ 9223372036854775807) → (srt l).Pairwise fun x y => x.a ≤ y.a
theorem Val.beg {l : List Du} (h : Val l) : ∀ d ∈ l, 0 ≤ d.a ∧ d.a ≤ 9223372036854775807 := fun d hd => by have := h d hd; omega
theorem strW_iff {a b : Int} (hb : -9223372036854775808 < b) (hb2 : b ≤ 9223372036854775807) : strW a b = strB a b := by
  unfold strW strB; rw [show wr (b - 1) = b - 1 from wrap_id (by omega) (by omega)]
theorem strW_beg {a b : Int} (h : strW a b = true) : 0 ≤ a ∧ a ≤ 9223372036854775807 := by
  simp [strW] at h
  have : wr (b - 1) ≤ 9223372036854775807 := by
    rw [wr, IntKind.wrap_i64]; omega
  omega
theorem swpW_eq {to : Int} (hto : to ≤ 1000000) : ∀ (l : List Du) (done n : Int), Val l → -1000000 ≤ done → done ≤ to → 0 ≤ n → n ≤ done + 1000000 → swpW to l done n = swp to l done n
  | [], _, _, _, _, _, _, _ => rfl
  | d :: r, done, n, hv, h1, h2, h3, h4 => by
    have hd := hv d (by simp)
    rw [swpW, swp]
    split
    · rename_i h
      rw [show wr (min d.b to - max d.a done) = min d.b to - max d.a done from wrap_id (by omega) (by omega), show wr (n + (min d.b to - max d.a done)) = n + (min d.b to - max d.a done) from wrap_id (by omega) (by omega)]
      exact swpW_eq hto r _ _ (fun x hx => hv x (by simp [hx])) (by omega) (by omega) (by omega) (by omega)
    · exact swpW_eq hto r _ _ (fun x hx => hv x (by simp [hx])) h1 h2 h3 h4
section
variable {srt : List Du → List Du} (hs : SrtOk srt)
include hs
theorem wkW_eq {l : List Du} (hv : Val l) {x y : Int} (hx : -1000000 ≤ x) (hxy : x ≤ y) (hy : y ≤ 1000000) : wkW srt l x y = wk l x y := by
  have hp := hs.perm l hv.beg
  have hv' : Val (srt l) := fun d hd => hv d (hp.mem_iff.1 hd)
  rw [wkW, swpW_eq hy (srt l) x 0 hv' hx hxy (by omega) (by omega), wk_sorted hp (hs.sort l hv.beg) hxy]
theorem totW_eq {l : List Du} (hv : Val l) {W T : Int} (hW : 1 ≤ W ∧ W ≤ 2000) : totW srt l W T = totB l W T := by
  unfold totW totB
  rw [Bool.eq_iff_iff, List.all_eq_true, List.all_eq_true]
  refine forall_congr' fun d => forall_congr' fun hd => ?_
  have := hv d hd
  rw [show wr (d.a + W) = d.a + W from wrap_id (by omega) (by omega), show wr (d.b - W) = d.b - W from wrap_id (by omega) (by omega), wkW_eq hs hv (by omega) (by omega) (by omega), wkW_eq hs hv (by omega) (by omega) (by omega)]
theorem brkW_eq {r : Ro} (hr : r.Fit) {o : List Du} (hv : Val o) {x : Du} (hx : 0 ≤ x.a ∧ x.a < x.b ∧ x.b ≤ 2000) : brkW srt r o x = brk r o x := by
  have h1 := hr.rst
  have e1 : (o.any fun d => !restW r d x) = !(o.all fun d => restB r d x) := by
    rw [List.not_all_eq_any_not, Bool.eq_iff_iff, List.any_eq_true, List.any_eq_true]
    refine exists_congr fun d => and_congr_right fun hd => ?_
    have := hv d hd
    unfold restW restB
    rw [show wr (x.b + r.rst) = x.b + r.rst from wrap_id (by omega) (by omega), show wr (d.b + r.rst) = d.b + r.rst from wrap_id (by omega) (by omega)]
  have e2 : recW r o x = recB r o x := by
    unfold recW recB nearW
    congr 1
    rw [Bool.eq_iff_iff, List.any_eq_true, List.any_eq_true]
    refine exists_congr fun d => and_congr_right fun hd => ?_
    have := hv d hd
    rw [show wr (x.a - d.b) = x.a - d.b from wrap_id (by omega) (by omega)]
  have hv' : Val (o ++ [x]) := fun d hd => by
    rcases List.mem_append.1 hd with h | h
    · exact hv d h
    · have := List.mem_singleton.1 h; subst this; exact hx
  unfold brkW brk
  rw [e1, e2, totW_eq hs hv' hr.win, show wr (x.b - x.a) = x.b - x.a from wrap_id (by omega) (by omega)]
  cases (o.all fun d => restB r d x) <;> simp
theorem whyW_eq {r : Ro} (hr : r.Fit) {l : List Du} (hv : Val l) {n : Int} {c : Cl} (hc : 0 ≤ c.a ∧ c.a < c.b ∧ c.b ≤ 2000) : whyW srt r l n c = whyL r l n c := by
  unfold whyW whyL; rw [brkW_eq hs hr (own_val hv n) hc]
theorem untW_eq {r : Ro} (hr : r.Fit) {o : List Du} (hv : Val o) {n a : Int} (ha : 0 ≤ a) : ∀ k : Nat, a + k ≤ 2000 → untW srt r o n a k = untL r o n a k
  | 0, _ => rfl
  | k + 1, hk => by
    rw [untW, untL, brkW_eq hs hr hv ⟨ha, by simp only; omega, hk⟩, untW_eq hr hv ha k (by omega)]
/-- Right duties are right as the program computes. -/
theorem Rt.duOkW {r : Ro} (hr : r.Fit) {l : List Du} {i : Nat} (hi : i < l.length) (h : Rt r l (i + 1)) : duOkW srt r l i = true := by
  have hk := h i (by omega)
  have hk' := duOk_iff.1 hk
  have hv := Rt.val (n := i) (by omega) fun j hj => h j (by omega)
  unfold Sx.duOkW
  unfold duOk at hk
  rw [strW_iff (by omega) (by omega), brkW_eq hs hr (own_val hv _) hk'.2.1]
  exact hk
theorem chkEW_of {r : Ro} {l : List Du} (h : (chkE r l).2 = 0) : chkEW srt r l = (0, 0) := by
  obtain ⟨h1, h2, h3⟩ := chkE_zero.1 h
  have : badDuW srt r l = -1 := idxZ_none _ _ fun j hj => by
    simp at hj ⊢
    exact Rt.duOkW hs h1 hj fun i hi => h3 i (by omega)
  unfold chkEW
  rw [if_pos (Ro.ok_iff.2 h1), if_neg (by omega), if_neg (by rw [this]; omega)]
end
end Go.Sx
end
