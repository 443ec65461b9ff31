/- A part of a proof; no conditions. -/
import Derived.Test.YtbdphjgpjhlpmaaSyHe
set_option linter.unusedSimpArgs false
set_option linter.unusedVariables false
set_option maxRecDepth 100000
namespace Go.Sx
open Go.Proofs

/-- A contract of a function that reads and writes blocks that it is handed. -/
noncomputable def mkH {D : Type} (enc : D → List V) (HP : D → Hp → Prop) (pre : D → Prop) (res : D → V) (post : D → Hp → Hp) : HSpec :=
  { go := fun args h => open Classical in if hx : ∃ d, args = enc d ∧ HP d h then ⟨pre hx.choose, res hx.choose, post hx.choose h⟩ else bad h }
theorem mkH_at {D : Type} {enc : D → List V} {HP : D → Hp → Prop} {pre : D → Prop} {res : D → V} {post : D → Hp → Hp} (inj : ∀ d d' h, enc d = enc d' → HP d h → HP d' h → d = d') {d : D} {h : Hp} (hd : HP d h) :
    (mkH enc HP pre res post).go (enc d) h = ⟨pre d, res d, post d h⟩ := by
  have hx : ∃ d', enc d = enc d' ∧ HP d' h := ⟨d, rfl, hd⟩
  have e : hx.choose = d := (inj _ _ _ hx.choose_spec.1 hd hx.choose_spec.2).symm
  simp only [mkH]
  rw [dif_pos hx, e]
theorem mkH_inv {D : Type} {enc : D → List V} {HP : D → Hp → Prop} {pre : D → Prop} {res : D → V} {post : D → Hp → Hp} {args : List V} {h : Hp} (hc : ((mkH enc HP pre res post).go args h).c) :
    ∃ d, args = enc d ∧ HP d h ∧ pre d ∧ (mkH enc HP pre res post).go args h = ⟨pre d, res d, post d h⟩ := by
  simp only [mkH] at hc ⊢
  by_cases hx : ∃ d, args = enc d ∧ HP d h
  · rw [dif_pos hx] at hc
    exact ⟨hx.choose, hx.choose_spec.1, hx.choose_spec.2, hc, by rw [dif_pos hx]⟩
  · rw [dif_neg hx] at hc; exact hc.elim

/-! chance's inner function -/
def bO (rows : List Int) : Blk := { z := 1, els := rows.map ri, ty := 3 }
def bF (num den : Int) : Blk := { z := 2, els := [[.int .i64 num, .int .i64 den]], ty := 35 }
def bW (want : Int) : Blk := { z := 1, els := [[.int .i64 want]], ty := 3 }
def bN : Blk := { z := 1, els := [[.fn 52 [.bptr 2904 0 1 0 0, .bptr 2903 0 1 0 0, .bptr 2905 0 1 0 0]]], ty := 85, cl := false }
def cst (h : Hp) (rows : List Int) (num den : Int) : Hp := hset (hset h 2912 0 (bO rows)) 2904 0 (bF num den)
structure NextH (want : Int) (h : Hp) : Prop where
  o : ∃ B, hget h 2912 0 = some B
  f : ∃ B, hget h 2904 0 = some B
  w : hget h 2903 0 = some (bW want)
  n : hget h 2905 0 = some bN
theorem cst_f {want : Int} {h : Hp} (H : NextH want h) (rows : List Int) (num den : Int) : hget (cst h rows num den) 2904 0 = some (bF num den) := by
  obtain ⟨B, hB⟩ := H.f
  exact hget_hset_eq (B' := B) ((hget_hset_ne (by decide)).trans hB)
theorem cst_o {want : Int} {h : Hp} (H : NextH want h) (rows : List Int) (num den : Int) : hget (cst h rows num den) 2912 0 = some (bO rows) := by
  obtain ⟨B, hB⟩ := H.o
  exact (hget_hset_ne (by decide)).trans (hget_hset_eq hB)
theorem cst_w {want : Int} {h : Hp} (H : NextH want h) (rows : List Int) (num den : Int) : hget (cst h rows num den) 2903 0 = some (bW want) :=
  (hget_hset_ne (by decide)).trans ((hget_hset_ne (by decide)).trans H.w)
theorem cst_n {want : Int} {h : Hp} (H : NextH want h) (rows : List Int) (num den : Int) : hget (cst h rows num den) 2905 0 = some bN :=
  (hget_hset_ne (by decide)).trans ((hget_hset_ne (by decide)).trans H.n)
theorem cst_cst (h : Hp) (rows rows' : List Int) (a b c d : Int) : cst (cst h rows a b) rows' c d = cst h rows' c d := by
  unfold cst
  rw [hset_comm (s := 2904) (s' := 2912) (by decide), hset_hset, hset_hset]
theorem cst_set_f (h : Hp) (rows : List Int) (a b c d : Int) : hset (cst h rows a b) 2904 0 (bF c d) = cst h rows c d := by
  unfold cst; rw [hset_hset]
theorem cst_set_o (h : Hp) (rows rows' : List Int) (a b : Int) : hset (cst h rows a b) 2912 0 (bO rows') = cst h rows' a b := by
  unfold cst; rw [hset_comm (s := 2904) (by decide), hset_hset]
theorem cst_self {h : Hp} {rows : List Int} {a b : Int} (ho : hget h 2912 0 = some (bO rows)) (hf : hget h 2904 0 = some (bF a b)) : cst h rows a b = h := by
  unfold cst; rw [hset_get ho, hset_get hf]
theorem NextH.cst {want : Int} {h : Hp} (H : NextH want h) (rows : List Int) (a b : Int) : NextH want (cst h rows a b) :=
  ⟨⟨_, cst_o H rows a b⟩, ⟨_, cst_f H rows a b⟩, cst_w H rows a b, cst_n H rows a b⟩

structure NextD where
  rows : List Int
  j : Nat
  left : List Int
  so : Int
  num : Int
  den : Int
  want : Int
def nextEnc (d : NextD) : List V := [.osl 2912 0 d.rows.length 0 d.j d.rows.length, .sl 1 (d.left.map ri), .int .i64 d.so, .bptr 2904 0 1 0 0, .bptr 2903 0 1 0 0, .bptr 2905 0 1 0 0]
def nextHP (d : NextD) (h : Hp) : Prop := NextH d.want h ∧ h = cst h d.rows d.num d.den
def nextPre (M : Nat) (d : NextD) : Prop := d.left.length < M ∧ d.j + d.left.length = d.rows.length ∧ 0 < d.rows.length ∧ d.rows.length ≤ 12 ∧ 0 ≤ d.num ∧ d.num ≤ 1000000000000000000 - facN d.left.length ∧ 0 ≤ d.den ∧ d.den ≤ 1000000000000000000 - facN d.left.length ∧ -(d.j * 12) ≤ d.so ∧ d.so ≤ d.j * 12
def nextR (d : NextD) : List Int × Int × Int := nextZ d.want d.left.length d.rows d.j d.left d.so (d.num, d.den)
def nextPost (d : NextD) (h : Hp) : Hp := cst h (nextR d).1 (nextR d).2.1 (nextR d).2.2
noncomputable def nextS (M : Nat) : HSpec := mkH nextEnc nextHP (nextPre M) (fun _ => .tup []) nextPost
theorem next_inj (d d' : NextD) (h : Hp) (he : nextEnc d = nextEnc d') (h1 : nextHP d h) (h2 : nextHP d' h) : d = d' := by
  obtain ⟨rows, j, left, so, num, den, want⟩ := d
  obtain ⟨rows', j', left', so', num', den', want'⟩ := d'
  simp only [nextEnc, List.cons.injEq, V.osl.injEq, V.sl.injEq, V.int.injEq] at he
  have e1 := map_ri_inj he.2.1.2
  obtain ⟨k1, k2⟩ := h1
  obtain ⟨g1, g2⟩ := h2
  simp only at k1 k2 g1 g2
  have a1 := cst_o k1 rows num den
  have a2 := cst_o g1 rows' num' den'
  have b1 := cst_f k1 rows num den
  have b2 := cst_f g1 rows' num' den'
  rw [← k2] at a1 b1
  rw [← g2] at a2 b2
  rw [a1] at a2; rw [b1] at b2
  have c1 := k1.w
  rw [g1.w] at c1
  simp only [bO, bF, bW, Option.some.injEq, Blk.mk.injEq, List.cons.injEq, V.int.injEq] at a2 b2 c1
  simp only [NextD.mk.injEq]
  exact ⟨map_ri_inj a2.2.1, he.1.2.2.2.2.1, e1, he.2.2.1.2, b2.2.1.1.1.2, b2.2.1.1.2.1.2, c1.2.1.1.1.2.symm⟩
theorem next_at {want : Int} {h : Hp} (H : NextH want h) (M n j : Nat) (els : List (List V)) (left rows : List Int) (so num den : Int) (hn : rows.length = n) (hl : els = left.map ri) :
    (nextS M).go [.osl 2912 0 n 0 j n, .sl 1 els, .int .i64 so, .bptr 2904 0 1 0 0, .bptr 2903 0 1 0 0, .bptr 2905 0 1 0 0] (cst h rows num den) =
      ⟨nextPre M ⟨rows, j, left, so, num, den, want⟩, .tup [], cst h (nextZ want left.length rows j left so (num, den)).1 (nextZ want left.length rows j left so (num, den)).2.1 (nextZ want left.length rows j left so (num, den)).2.2⟩ := by
  subst hn hl
  have := mkH_at (pre := nextPre M) (res := fun _ => .tup []) (post := nextPost) next_inj (d := ⟨rows, j, left, so, num, den, want⟩) (h := cst h rows num den) ⟨H.cst _ _ _, (cst_cst ..).symm⟩
  simp only [nextEnc, nextPost, nextR, cst_cst] at this
  exact this
noncomputable abbrev E52 (M : Nat) : Env := { P := Try.prog, fn := tbl [(53, .pure concatS), (54, .pure gainS), (52, .heap (nextS M))], own := [], key := 5200, nt := 55 }
abbrev alts52 : Alts := [(8, ([], [[0, 1, 2, 3, 4, 5, 6, 7, 8, 9, 10, 11], [1, 2, 3, 4, 0, 5, 6, 7, 8, 9, 10, 11]]))]
theorem dr52 (M : Nat) : drawsOk (E52 M) alts52 (Try.f52.body.getD .skip) = true := by kernel_rfl
theorem b52 (M : Nat) : HeapBody (E52 M) alts52 Try.f52 (nextS (M + 1)) := by
  intro args h hc
  obtain ⟨⟨rows, j, left, so, num, den, want⟩, rfl, ⟨H, hh⟩, hp, hgo⟩ := mkH_inv hc
  rw [nextS, hgo]
  clear hgo hc
  simp only [nextEnc, nextPost, nextR]
  simp only at H hh
  obtain ⟨p1, p2, p3, p4, p5, p6, p7, p8, p9, p10⟩ := hp
  simp only at p1 p2 p3 p4 p5 p6 p7 p8 p9 p10
  rw [hh]
  have hF := cst_f H
  have hW := cst_w H
  have hO := cst_o H
  have hN := cst_n H
  have s1 := cst_set_f h
  have s2 := cst_set_o h
  have c2 := cst_cst h
  simp only [bF, bW, bO, bN] at hF hW hO hN s1 s2
  clear hh
  by_cases h0 : left = []
  · subst h0
    simp only [List.length_nil, facN] at p2 p6 p8
    have w1 : IntKind.wrap .i64 (den + 1) = den + 1 := wrap_id (by omega) (by omega)
    have w2 : IntKind.wrap .i64 (num + 1) = num + 1 := wrap_id (by omega) (by omega)
    clear p2 p5 p6 p7 p8 p9 p10
    by_cases hso : want ≤ so
    · simp -dsimp [Try.f52, hF, hW, s1, w1, w2, c2, nextZ, hso]
      exact HLe.refl _
    · simp -dsimp [Try.f52, hF, hW, s1, w1, w2, c2, nextZ, hso]
      exact HLe.refl _
  have hl0 : left.length ≠ 0 := by simpa using h0
  obtain ⟨m, hm⟩ : ∃ m, left.length = m + 1 := ⟨left.length - 1, by omega⟩
  simp -dsimp [Try.f52, h0]
  refine awp_loop [29, 30, 31, 32, 9, 10, 33, 34, 35, 36, 37, 38, 39, 40, 41, 11, 42, 43, 44, 45, 46, 47, 48, 49, 50, 51, 52, 53, 54, 28] (fun k : Fin (left.length + 1) => [(28, (true, .int .i64 k.1))])
    (fun k => cst h (nextTo want m rows j left so (num, den) k.1).1 (nextTo want m rows j left so (num, den) k.1).2.1 (nextTo want m rows j left so (num, den) k.1).2.2) (fun k => left.length - k.1) ⟨0, by omega⟩ ?_ (HLe.refl _) ?_
  · simp [okAll, okv]
  rintro ⟨k, hk⟩
  by_cases hk1 : k < left.length
  · have e1 : IntKind.wrap .i64 ((k : Int) + 1) = (k + 1 : Nat) := wrap_id (by omega) (by omega)
    have e2 : k ≤ left.length := by omega
    have e3 : k + 1 ≤ left.length := hk1
    obtain ⟨n1, n2, n3, n4, n5⟩ := nextTo_inv want m rows j left so (num, den) hm k e2
    have hs := nextTo_succ want m rows j left so (num, den) k
    have f1 : (k : Int) * facN m + facN m ≤ facN left.length := by
      have : ((k + 1 : Nat) : Int) * facN m ≤ ((m + 1 : Nat) : Int) * facN m := Int.mul_le_mul_of_nonneg_right (by omega) (by omega)
      rw [hm]; simp only [facN]; rw [Int.natCast_mul]
      rw [Int.natCast_add, Int.add_mul] at this
      simpa using this
    have eG : left.getD k 0 = left[k] := by simp [List.getD, List.getElem?_eq_getElem hk1]
    rw [eG] at hs
    generalize nextTo want m rows j left so (num, den) k = s at *
    obtain ⟨rs, a, b⟩ := s
    simp only at n1 n2 n3 n4 n5 hs ⊢
    have hrl : rs.length = rows.length := n1
    have hjr : j < rs.length := by omega
    have hrn : ¬ rs = [] := by intro h; rw [h] at hjr; simp at hjr
    have eD : List.take (left.length - (k + 1)) (List.drop (k + 1) (List.map ri left)) = List.drop (k + 1) (List.map ri left) := List.take_of_length_le (by simp)
    have eL : V.toLists (V.sl 1 [[V.sl 1 (List.take k (List.map ri left))], [V.sl 1 (List.drop (k + 1) (List.map ri left))]]) = [left.take k, left.drop (k + 1)] := by
      rw [← List.map_take, ← List.map_drop]
      exact toLists_rl [left.take k, left.drop (k + 1)]
    have eS : List.take j (List.map ri rs) ++ [V.int IntKind.i64 left[k]] :: List.drop (j + 1) (List.map ri rs) = List.map ri (rs.set j left[k]) := by
      rw [List.map_set, List.set_eq_take_append_cons_drop]
      simp [hjr, ri]
    have eT : List.take j (List.map ri (rs.set j left[k])) = List.map ri (rs.take j) := by
      rw [← List.map_take, List.take_set_of_le (Nat.le_refl j)]
    have eM : min j rs.length = j := by omega
    have hg := gain_bound (rs.take j) left[k]
    have hgl : (rs.take j).length ≤ 12 := by simp; omega
    have e5 : IntKind.wrap .i64 (so + gainZ (rs.take j) left[k]) = so + gainZ (rs.take j) left[k] := wrap_id (by omega) (by omega)
    have eN : (left.take k ++ left.drop (k + 1)).length = m := by simp; omega
    have nx := next_at H M rows.length (j + 1) (List.take k (List.map ri left) ++ List.drop (k + 1) (List.map ri left)) (left.take k ++ left.drop (k + 1)) (rs.set j left[k]) (so + gainZ (rs.take j) left[k]) a b (by simp [hrl]) (by rw [List.map_append, List.map_take, List.map_drop])
    rw [eN, ← hs] at nx
    simp -dsimp [hk1, e1, ri]
    repeat' (first | omega | (simp -dsimp [E52, ri, rl, ints, hk1, e1, e2, e3, hO, hN, s2, eD, eL, eS, eT, hrl, hrn, e5, nx, -List.map_set]) | (refine Also.intro ?_ fun _ => ?_) | (refine Hold.intro fun _ => ?_) | (refine And.intro ?_ ?_))
    all_goals first
      | (rw [show k + (left.length - (k + 1)) = m by omega]; omega)
      | (refine ⟨⟨k + 1, by omega⟩, tle_chain rfl ?_, HLe.refl _, by simp only; omega⟩; simp [okAll, okv])
  · have hk2 : k = left.length := by omega
    subst hk2
    simp -dsimp
    rw [hm, nextZ_succ, ← hm, cst_cst]
    exact HLe.refl _
theorem ok52 : ∀ M, FnOK Try.prog 52 (.heap (nextS M))
  | 0 => { call := run_call (fn := Try.f52) (by kernel_rfl) (by kernel_rfl) rfl, pure := fun S' hS => (by cases hS), heap := fun S' hS => (by
      cases hS
      intro args h hc
      obtain ⟨d, _, _, hp, _⟩ := mkH_inv hc
      exact absurd hp.1 (by omega)) }
  | M + 1 => heap_fn (E := E52 M) rfl (.cons ok53 (.cons ok54 (.cons (ok52 M) .nil))) (ok := alts52) (fn := Try.f52) (by kernel_rfl) (by kernel_rfl) (by kernel_rfl) (by kernel_rfl) rfl (fun args h hc => by
      obtain ⟨d, rfl, _⟩ := mkH_inv hc
      simp [nextEnc]) (b52 M)
end Go.Sx

