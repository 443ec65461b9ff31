/- HealthProof: the search. No conditions. -/
import Derived.Test.YtjnfgejicdnjnaaSxIl
set_option linter.unusedSimpArgs false
set_option linter.unusedVariables false
set_option maxRecDepth 100000
set_option maxHeartbeats 2000000
namespace Go.Sx
open Go.Proofs

/-! Proof's inner function -/
theorem gi_nat {l : List Nat} {i : Nat} (h : i < l.length) : l.getD i 0 = l[i] := by simp [List.getD, List.getElem?_eq_getElem h]
theorem bit_andNot {a b : Nat} (ha : a < 9223372036854775808) (hb : b < 9223372036854775808) : bitw .andNot .i64 (a : Int) (b : Int) = (anN a b : Int) := by
  have e : (BitVec.ofInt IntKind.i64.bits (a : Int) &&& ~~~ BitVec.ofInt IntKind.i64.bits (b : Int)).toNat = anN a b := by
    apply Nat.eq_of_testBit_eq
    intro i
    rw [anN_bit]
    by_cases hi : i < 64
    · have h1 : (BitVec.ofInt IntKind.i64.bits (a : Int)).toNat = a := toNat_ofNat_i64 ha
      have h2 : (BitVec.ofInt IntKind.i64.bits (b : Int)).toNat = b := toNat_ofNat_i64 hb
      rw [BitVec.testBit_toNat, BitVec.getLsbD_and, BitVec.getLsbD_not, ← BitVec.testBit_toNat, ← BitVec.testBit_toNat, h1, h2]
      rw [show decide (i < IntKind.i64.bits) = true by rw [show IntKind.i64.bits = 64 from rfl]; simpa using hi, Bool.true_and]
    · have hl : (BitVec.ofInt IntKind.i64.bits (a : Int) &&& ~~~ BitVec.ofInt IntKind.i64.bits (b : Int)).toNat < 2 ^ i := Nat.lt_of_lt_of_le (BitVec.isLt _) (Nat.pow_le_pow_right (by decide) (by rw [show IntKind.i64.bits = 64 from rfl]; omega))
      rw [Nat.testBit_lt_two_pow hl]
      have : a < 2 ^ i := Nat.lt_of_lt_of_le (show a < 2 ^ 63 from ha) (Nat.pow_le_pow_right (by decide) (by omega))
      rw [Nat.testBit_lt_two_pow this]; rfl
  have hle : anN a b ≤ a := by
    unfold anN
    have h := Nat.and_le_left (n := a) (m := b)
    have hx : a ^^^ (a &&& b) ≤ a := by
      refine Nat.le_of_testBit ?_
      intro i hi
      rw [Nat.testBit_xor, Nat.testBit_and] at hi
      cases ha : a.testBit i with
      | true => rfl
      | false => rw [ha] at hi; simp at hi
    exact hx
  simp only [bitw]
  rw [e]
  exact wrap_id (by omega) (by omega)
theorem anN_le (a b : Nat) : anN a b ≤ a := by
  unfold anN
  refine Nat.le_of_testBit ?_
  intro i hi
  rw [Nat.testBit_xor, Nat.testBit_and] at hi
  cases ha : a.testBit i with
  | true => rfl
  | false => rw [ha] at hi; simp at hi

theorem findL_lt {b : List Nat} {G f : Nat} (ih : ∀ s o t, t < 2 ^ G → (find b f s o t).2.2 < 2 ^ G) (s : Nat) : ∀ (l : List Nat) (o : List Int) (t : Nat), (∀ g ∈ l, g < G) → t < 2 ^ G → (findL (find b f) s l o t).2.2 < 2 ^ G
  | [], o, t, _, ht => ht
  | g :: r, o, t, hl, ht => by
    have h1 : orN t (2 ^ g) < 2 ^ G := Nat.or_lt_two_pow ht (Nat.pow_lt_pow_right (by decide) (hl g (by simp)))
    rw [findL]
    split
    · exact h1
    · split
      · exact ih _ _ _ h1
      · exact findL_lt ih s r _ _ (fun x hx => hl x (by simp [hx])) (ih _ _ _ h1)
theorem find_lt {b : List Nat} {G : Nat} (hb : ∀ x ∈ b, x < 2 ^ G) : ∀ (f s : Nat) (o : List Int) (t : Nat), t < 2 ^ G → (find b f s o t).2.2 < 2 ^ G
  | 0, s, o, t, ht => ht
  | f + 1, s, o, t, ht => by
    rw [find]
    have hbs : b.getD s 0 < 2 ^ G := by
      simp only [List.getD]
      cases h : b[s]? with
      | none => exact Nat.two_pow_pos G
      | some x => exact hb x (List.mem_of_getElem? h)
    refine findL_lt (find_lt hb f) s _ o t (fun g hg => ?_) ht
    unfold memN memTo at hg
    rw [List.mem_filter, anN_bit, Bool.and_eq_true] at hg
    by_cases e : g < G
    · exact e
    · rw [Nat.testBit_lt_two_pow (Nat.lt_of_lt_of_le hbs (Nat.pow_le_pow_right (by decide) (by omega)))] at hg; cases hg.2.1
def bOf (o : List Int) : Blk := { z := 1, els := o.map ri, ty := 3 }
def bBx (d : BoxD) : Blk := { z := 1, els := [[boxV d]], ty := 82 }
def bOv (G : Nat) : Blk := { z := 1, els := [[.osl 7930 0 G 0 G G]], ty := 22, cl := false }
def bFn : Blk := { z := 1, els := [[.fn 80 [.bptr 4408 0 1 0 0, .bptr 4410 0 1 0 0, .bptr 4411 0 1 0 0]]], ty := 105, cl := false }
def bTr (t : Nat) : Blk := { z := 1, els := [[.int .i64 (t : Int)]], ty := 3 }
def pst (h : Hp) (o : List Int) (t r : Nat) : Hp := hset (hset h 7930 0 (bOf o)) 4413 r (bTr t)
structure PrH (G : Nat) (d : BoxD) (r : Nat) (h : Hp) : Prop where
  o : ∃ B, hget h 7930 0 = some B
  t : ∃ B, hget h 4413 r = some B
  b : hget h 4408 0 = some (bBx d)
  v : hget h 4410 0 = some (bOv G)
  f : hget h 4411 0 = some bFn
section
variable {G r : Nat} {d : BoxD} {h : Hp}
theorem pst_t (H : PrH G d r h) (o : List Int) (t : Nat) : hget (pst h o t r) 4413 r = some (bTr t) := by
  obtain ⟨B, hB⟩ := H.t
  exact hget_hset_eq (B' := B) ((hget_hset_ne (by decide)).trans hB)
theorem pst_o (H : PrH G d r h) (o : List Int) (t : Nat) : hget (pst h o t r) 7930 0 = some (bOf o) := by
  obtain ⟨B, hB⟩ := H.o
  exact (hget_hset_ne (by decide)).trans (hget_hset_eq hB)
theorem pst_b (H : PrH G d r h) (o : List Int) (t : Nat) : hget (pst h o t r) 4408 0 = some (bBx d) :=
  (hget_hset_ne (by decide)).trans ((hget_hset_ne (by decide)).trans H.b)
theorem pst_v (H : PrH G d r h) (o : List Int) (t : Nat) : hget (pst h o t r) 4410 0 = some (bOv G) :=
  (hget_hset_ne (by decide)).trans ((hget_hset_ne (by decide)).trans H.v)
theorem pst_f (H : PrH G d r h) (o : List Int) (t : Nat) : hget (pst h o t r) 4411 0 = some bFn :=
  (hget_hset_ne (by decide)).trans ((hget_hset_ne (by decide)).trans H.f)
theorem pst_pst (h : Hp) (o o' : List Int) (t t' r : Nat) : pst (pst h o t r) o' t' r = pst h o' t' r := by
  unfold pst
  rw [hset_comm (s := 4413) (s' := 7930) (by decide), hset_hset, hset_hset]
theorem pst_set_t (h : Hp) (o : List Int) (t t' r : Nat) : hset (pst h o t r) 4413 r (bTr t') = pst h o t' r := by
  unfold pst; rw [hset_hset]
theorem pst_set_o (h : Hp) (o o' : List Int) (t r : Nat) : hset (pst h o t r) 7930 0 (bOf o') = pst h o' t r := by
  unfold pst; rw [hset_comm (s := 4413) (by decide), hset_hset]
theorem pst_self {o : List Int} {t : Nat} (ho : hget h 7930 0 = some (bOf o)) (ht : hget h 4413 r = some (bTr t)) : pst h o t r = h := by
  unfold pst; rw [hset_get ho, hset_get ht]
theorem PrH.pst (H : PrH G d r h) (o : List Int) (t : Nat) : PrH G d r (pst h o t r) :=
  ⟨⟨_, pst_o H o t⟩, ⟨_, pst_t H o t⟩, pst_b H o t, pst_v H o t, pst_f H o t⟩
end
structure PrD where
  box : BoxD
  o : List Int
  t : Nat
  s : Nat
  r : Nat
def prEnc (d : PrD) : List V := [.int .i64 (d.s : Int), .bptr 4413 d.r 1 0 0, .bptr 4408 0 1 0 0, .bptr 4410 0 1 0 0, .bptr 4411 0 1 0 0]
def prHP (d : PrD) (h : Hp) : Prop := PrH d.o.length d.box d.r h ∧ h = pst h d.o d.t d.r
structure PrPre (M : Nat) (d : PrD) : Prop where
  u : untried d.o.length d.t < M
  s : d.s < d.box.bys.length
  p : Pairs d.box.bys d.o.length d.o
  b : ∀ x ∈ d.box.bys, x < 2 ^ d.o.length
  g : d.o.length ≤ 12
  t : d.t < 2 ^ d.o.length
def prR (M : Nat) (d : PrD) : Bool × List Int × Nat := find d.box.bys M d.s d.o d.t
noncomputable def prS (M : Nat) : HSpec := mkH prEnc prHP (PrPre M) (fun d => .bool (prR M d).1) (fun d h => pst h (prR M d).2.1 (prR M d).2.2 d.r)
theorem pr_inj (d d' : PrD) (h : Hp) (he : prEnc d = prEnc d') (h1 : prHP d h) (h2 : prHP d' h) : d = d' := by
  obtain ⟨box, o, t, s, r⟩ := d
  obtain ⟨box', o', t', s', r'⟩ := d'
  simp only [prEnc, List.cons.injEq, V.bptr.injEq, V.int.injEq] at he
  obtain ⟨k1, k2⟩ := h1
  obtain ⟨g1, g2⟩ := h2
  simp only at k1 k2 g1 g2
  have er : r = r' := he.2.1.2.1
  subst er
  have a1 := pst_o k1 o t
  have a2 := pst_o g1 o' t'
  have b1 := pst_t k1 o t
  have b2 := pst_t g1 o' t'
  rw [← k2] at a1 b1
  rw [← g2] at a2 b2
  rw [a1] at a2; rw [b1] at b2
  have c1 := k1.b
  rw [g1.b] at c1
  simp only [bOf, bTr, bBx, Option.some.injEq, Blk.mk.injEq, List.cons.injEq, V.int.injEq] at a2 b2 c1
  have eb : box = box' := by
    have := congrArg V.toBox c1.2.1.1.1
    rw [toBox_boxV, toBox_boxV] at this
    exact this.symm
  simp only [PrD.mk.injEq]
  refine ⟨eb, map_ri_inj a2.2.1, by have := b2.2.1.1.1.2; omega, by have := he.1.2; omega, trivial⟩
theorem pr_at {box : BoxD} {G r : Nat} {h : Hp} (H : PrH G box r h) (M s : Nat) (o : List Int) (t : Nat) (ho : o.length = G) :
    (prS M).go [.int .i64 (s : Int), .bptr 4413 r 1 0 0, .bptr 4408 0 1 0 0, .bptr 4410 0 1 0 0, .bptr 4411 0 1 0 0] (pst h o t r) = ⟨PrPre M ⟨box, o, t, s, r⟩, .bool (find box.bys M s o t).1, pst h (find box.bys M s o t).2.1 (find box.bys M s o t).2.2 r⟩ := by
  subst ho
  have := mkH_at (pre := PrPre M) (res := fun d => .bool (prR M d).1) (post := fun d h => pst h (prR M d).2.1 (prR M d).2.2 d.r) pr_inj (d := ⟨box, o, t, s, r⟩) (h := pst h o t r) ⟨H.pst _ _, (pst_pst ..).symm⟩
  simp only [prEnc, prR, pst_pst] at this
  exact this
noncomputable abbrev E80 (M : Nat) : Env := { P := Try.prog, fn := tbl [(81, .pure membersS), (80, .heap (prS M))], own := [], key := 8000, nt := 53 }
theorem dr80 (M : Nat) : drawsOk (E80 M) [] (Try.f80.body.getD .skip) = true := by kernel_rfl
theorem b80 (M : Nat) : HeapBody (E80 M) [] Try.f80 (prS (M + 1)) := by
  intro args h hc
  obtain ⟨⟨⟨se, ge, cells, bys⟩, o, t, s, r⟩, rfl, ⟨H, hh⟩, ⟨pu, ps, pp, pb, pg, pt⟩, hgo⟩ := mkH_inv hc
  rw [prS, hgo]
  clear hgo hc
  simp only at H hh pu ps pp pb pg pt
  simp only [prEnc, prR]
  rw [hh]
  have hT := pst_t H
  have hO := pst_o H
  have hB := pst_b H
  have hV := pst_v H
  have hF := pst_f H
  have s1 := pst_set_t h
  have s2 := pst_set_o h
  have c2 := pst_pst h
  simp only [bOf, bBx, bOv, bFn, bTr, boxV] at hT hO hB hV hF s1 s2
  clear hh
  generalize hG : o.length = G at *
  have h2G : 2 ^ G ≤ 4096 := Nat.le_trans (Nat.pow_le_pow_right (by decide) pg) (by decide)
  have hx := pb bys[s] (List.getElem_mem ps)
  have hfs := find_spec (G := G) (by omega) pb M
  rw [find, gi_nat ps]
  have ha := bit_andNot (a := bys[s]) (b := t) (by omega) (by omega)
  have hal := anN_le bys[s] t
  have hbit : ∀ g, bys[s].testBit g = true → g < G := fun g hg => by
    by_cases e : g < G
    · exact e
    · rw [Nat.testBit_lt_two_pow (Nat.lt_of_lt_of_le hx (Nat.pow_le_pow_right (by decide) (by omega)))] at hg; cases hg
  have hm : ∀ g, g ∈ memN (anN bys[s] t) → (g < G ∧ t.testBit g = false) := fun g hg => by
    unfold memN memTo at hg
    rw [List.mem_filter, anN_bit, Bool.and_eq_true, Bool.not_eq_true'] at hg
    exact ⟨hbit g hg.2.1, hg.2.2⟩
  have hX : anN bys[s] t < 4611686018427387904 := by omega
  have hLl := memN_len (anN bys[s] t)
  generalize hL : memN (anN bys[s] t) = L at *
  simp -dsimp [Try.f80]
  repeat' (first | omega | (simp -dsimp [E80, rn, nats_eq, hB, hT, ps, ha, hX, hL]) | (refine Also.intro ?_ fun _ => ?_) | (refine Hold.intro fun _ => ?_) | (refine And.intro ?_ ?_))
  refine awp_loop [24, 25, 26, 9, 27, 28, 29, 30, 31, 32, 33, 34, 35, 36, 37, 38, 39, 40, 41, 42, 43, 44, 45, 46, 47, 48, 49, 50, 51, 7, 52, 23] (fun p : { p : Nat × Nat // p.1 ≤ L.length ∧ findL (find bys M) s L o t = findL (find bys M) s (L.drop p.1) o p.2 ∧ sub2 t p.2 ∧ p.2 < 2 ^ G } => [(23, (true, .int .i64 (p.1.1 : Nat)))]) (fun p => pst h o p.1.2 r) (fun p => L.length - p.1.1) ⟨(0, t), by omega, rfl, sub2.refl t, pt⟩ ?_ (HLe.refl _) ?_
  · simp [okAll, okv]
  rintro ⟨⟨i, ti⟩, hi, hfl, hsub, hti⟩
  simp only at hi hfl hsub hti ⊢
  rw [hfl]
  by_cases hi1 : i < L.length
  case neg =>
    rw [List.drop_eq_nil_of_le (by omega), findL]
    have hii : ¬ (i : Int) < L.length := by omega
    simp -dsimp [hii]
    repeat' (first | omega | (simp -dsimp [E80, rn, nats_eq, hii, c2, -List.map_set]) | (refine Also.intro ?_ fun _ => ?_) | (refine Hold.intro fun _ => ?_) | (refine And.intro ?_ ?_))
    try exact HLe.refl _
  have hii : (i : Int) < L.length := by omega
  have wi : IntKind.wrap .i64 ((i : Int) + 1) = (i + 1 : Nat) := wrap_id (by omega) (by omega)
  obtain ⟨hgG, hg0⟩ := hm L[i] (List.getElem_mem hi1)
  rw [List.drop_eq_getElem_cons hi1, findL]
  generalize hg : L[i] = g at *
  have hsh := bit_shl g (by omega)
  have hpw : pw g < 9223372036854775808 := by
    have : 2 ^ g < 2 ^ 62 := Nat.pow_lt_pow_right (by decide) (by omega)
    unfold pw; omega
  obtain ⟨t1, ht1⟩ : ∃ t1, t1 = orN ti (2 ^ g) := ⟨_, rfl⟩
  have hor : bitw .or .i64 (ti : Int) (pw g : Int) = (t1 : Int) := by rw [ht1]; exact bit_or (by omega) hpw
  have st1 := pst_set_t h o ti t1 r
  simp only [bTr] at st1
  rw [← ht1]
  have hgo : g < o.length := by omega
  have hge : o.getD g 0 = o[g] := gi hgo
  rw [hge]
  have hmap : ∀ x : List Int, (x.map ri).set g [V.int IntKind.i64 (s : Int)] = (x.set g (s : Int)).map ri := fun x => by rw [List.map_set]; rfl
  have hri : ∀ n : Int, ri n = [V.int IntKind.i64 n] := fun _ => rfl
  have hOl := hT o t1
  by_cases hneg : o[g] < 0
  · rw [if_pos hneg]
    have so := s2 o (o.set g (s : Int)) t1 r
    simp -dsimp [hii]
    repeat' (first | omega | (simp -dsimp [E80, rn, nats_eq, hii, hi1, hg, hB, hT, hO, hV, hsh, hor, st1, hgo, hgG, hri, hneg, hmap, so, c2, -List.map_set]) | (refine Also.intro ?_ fun _ => ?_) | (refine Hold.intro fun _ => ?_) | (refine And.intro ?_ ?_))
    try exact HLe.refl _
  obtain ⟨τ, hτ⟩ := Int.eq_ofNat_of_zero_le (show 0 ≤ o[g] by omega)
  have hτ' : o[g].toNat = τ := by omega
  rw [if_neg hneg, hτ']
  have hτn : ¬ (τ : Int) < 0 := by omega
  obtain ⟨ee, -⟩ := pp.edge g hgG (by rw [hge]; omega)
  rw [hge, hτ'] at ee
  have hsub1 : sub2 t t1 := by rw [ht1]; exact hsub.trans (sub2_or ti g)
  have hbg : t1.testBit g = true := by rw [ht1, or_bit]; simp
  have hu1 := untried_lt (G := G) hsub1 hgG hg0 hbg
  have ht1G : t1 < 2 ^ G := by
    rw [ht1]
    exact Nat.or_lt_two_pow hti (Nat.pow_lt_pow_right (by decide) hgG)
  have nx := pr_at (box := ⟨se, ge, cells, bys⟩) H M τ o t1 hG
  simp only at nx
  have hpre : PrPre M ⟨⟨se, ge, cells, bys⟩, o, t1, τ, r⟩ := ⟨by simp only [hG]; omega, ee, by simp only [hG]; exact pp, by simp only [hG]; exact pb, by simp only [hG]; exact pg, by simp only [hG]; exact ht1G⟩
  obtain ⟨hF1, -⟩ := hfs τ o t1 (by omega) ee pp
  have hxt := find_lt pb M τ o t1 ht1G
  generalize hfx : find bys M τ o t1 = x at *
  obtain ⟨x1, xo, xt⟩ := x
  cases x1 with
  | true =>
    simp only [if_true]
    have hxl : xo.length = G := (hF1.yes rfl).1.len
    have hgx : g < xo.length := by omega
    have so := s2 xo (xo.set g (s : Int)) xt r
    simp -dsimp [hii]
    repeat' (first | omega | (simp -dsimp [E80, rn, nats_eq, hii, hi1, hg, hB, hT, hO, hV, hF, hsh, hor, st1, hgo, hgG, hri, hτ, hτn, nx, hpre, hxl, hgx, hmap, so, c2, -List.map_set]) | (refine Also.intro ?_ fun _ => ?_) | (refine Hold.intro fun _ => ?_) | (refine And.intro ?_ ?_))
    try exact HLe.refl _
  | false =>
    simp only [Bool.false_eq_true, if_false]
    have hxo : xo = o := (hF1.no rfl).1
    subst hxo
    have hgr : sub2 t1 xt := hF1.grow
    simp -dsimp [hii]
    repeat' (first | omega | (simp -dsimp [E80, rn, nats_eq, hii, hi1, hg, hB, hT, hO, hV, hF, hsh, hor, st1, hgo, hgG, hri, hτ, hτn, nx, hpre, hmap, wi, c2, -List.map_set]) | (refine Also.intro ?_ fun _ => ?_) | (refine Hold.intro fun _ => ?_) | (refine And.intro ?_ ?_))
    refine ⟨i + 1, tle_chain rfl ?_, xt, HLe.refl _, ⟨hi1, rfl, hsub1.trans hgr, hxt⟩, by omega⟩
    simp [okAll, okv]
theorem ok80 : ∀ M, FnOK Try.prog 80 (.heap (prS M))
  | 0 => { call := run_call (fn := Try.f80) (by kernel_rfl) (by kernel_rfl) rfl, pure := fun S' hS => (by cases hS), heap := fun S' hS => (by
      cases hS
      intro args h hc
      obtain ⟨d, _, _, hp, _⟩ := mkH_inv hc
      exact absurd hp.u (by omega)) }
  | M + 1 => heap_fn (E := E80 M) rfl (.cons ok81 (.cons (ok80 M) .nil)) (ok := []) (fn := Try.f80) (by kernel_rfl) (by kernel_rfl) (by kernel_rfl) (dr80 M) rfl (fun args h hc => by
      obtain ⟨d, rfl, _⟩ := mkH_inv hc
      simp [prEnc]) (b80 M)
end Go.Sx

