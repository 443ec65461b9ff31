/- A part of a proof; no conditions. -/
import Derived.Test.YtomgmojjdgiieaaGreatP49
import Derived.Test.YtomgmojjdgiieaaGreatP46
set_option linter.unusedSimpArgs false
set_option linter.unusedVariables false
set_option linter.unusedSectionVars false
section
/- The parted air: its boxes (plain). No conditions. -/
set_option linter.unusedSimpArgs false
set_option linter.unusedSectionVars false
namespace Go.Sx
open Go.Proofs
theorem q_head {x y z : Int} (h1 : x ≤ y) (h2 : y < z) : q1 ⟨x, z⟩ ⟨x, y⟩ = [] ∧ q2 ⟨x, z⟩ ⟨x, y⟩ = [⟨y + 1, z⟩] ∧ pU ⟨x, z⟩ ⟨x, y⟩ = x ∧ pW ⟨x, z⟩ ⟨x, y⟩ = y := by
  have e1 : pX ⟨x, z⟩ ⟨x, y⟩ = x - 1 := by simp only [pX]; rw [if_pos (by omega)]
  have e2 : pY ⟨x, z⟩ ⟨x, y⟩ = y + 1 := by simp only [pY]; rw [if_pos (by omega)]
  refine ⟨?_, ?_, ?_, ?_⟩
  · simp only [q1, e1]; rw [if_neg (by omega)]
  · simp only [q2, e2]; rw [if_pos (by omega)]
  · simp only [pU]; rw [if_neg (by omega)]
  · simp only [pW]; rw [if_pos (by omega)]
theorem q_same {x y : Int} (h1 : x ≤ y) : q1 ⟨x, y⟩ ⟨x, y⟩ = [] ∧ q2 ⟨x, y⟩ ⟨x, y⟩ = [] ∧ pU ⟨x, y⟩ ⟨x, y⟩ = x ∧ pW ⟨x, y⟩ ⟨x, y⟩ = y := by
  have e1 : pX ⟨x, y⟩ ⟨x, y⟩ = x - 1 := by simp only [pX]; rw [if_pos (by omega)]
  have e2 : pY ⟨x, y⟩ ⟨x, y⟩ = y + 1 := by simp only [pY]; rw [if_pos (by omega)]
  refine ⟨?_, ?_, ?_, ?_⟩
  · simp only [q1, e1]; rw [if_neg (by omega)]
  · simp only [q2, e2]; rw [if_neg (by omega)]
  · simp only [pU]; rw [if_neg (by omega)]
  · simp only [pW]; rw [if_neg (by omega)]
theorem q_aft {x y u v : Int} (h1 : x ≤ y) (h2 : y < u) (h3 : u ≤ v) : q1 ⟨x, y⟩ ⟨u, v⟩ = [⟨x, y⟩] ∧ q2 ⟨x, y⟩ ⟨u, v⟩ = [] ∧ pW ⟨x, y⟩ ⟨u, v⟩ < pU ⟨x, y⟩ ⟨u, v⟩ := by
  have e1 : pX ⟨x, y⟩ ⟨u, v⟩ = y := by simp only [pX]; split <;> omega
  have e2 : pY ⟨x, y⟩ ⟨u, v⟩ = v + 1 := by simp only [pY]; rw [if_pos (by omega)]
  refine ⟨?_, ?_, ?_⟩
  · simp only [q1, e1]; rw [if_pos (by omega)]
  · simp only [q2, e2]; rw [if_neg (by omega)]
  · simp only [pU, pW]; split <;> split <;> omega
theorem q_bef {x y u v : Int} (h1 : x ≤ y) (h2 : v < x) (h3 : u ≤ v) : q1 ⟨x, y⟩ ⟨u, v⟩ = [] ∧ q2 ⟨x, y⟩ ⟨u, v⟩ = [⟨x, y⟩] ∧ pW ⟨x, y⟩ ⟨u, v⟩ < pU ⟨x, y⟩ ⟨u, v⟩ := by
  have e1 : pX ⟨x, y⟩ ⟨u, v⟩ = u - 1 := by simp only [pX]; rw [if_pos (by omega)]
  have e2 : pY ⟨x, y⟩ ⟨u, v⟩ = x := by simp only [pY]; split <;> omega
  refine ⟨?_, ?_, ?_⟩
  · simp only [q1, e1]; rw [if_neg (by omega)]
  · simp only [q2, e2]; rw [if_pos (by omega)]
  · simp only [pU, pW]; split <;> split <;> omega
theorem mns_aft {x y u v : Int} (p r : Sp) (h1 : x ≤ y) (h2 : y < u) (h3 : u ≤ v) : mns2 ⟨⟨x, y⟩, p⟩ ⟨⟨u, v⟩, r⟩ = [⟨⟨x, y⟩, p⟩] := by
  obtain ⟨a1, a2, a3⟩ := q_aft h1 h2 h3
  simp only [mns2, mnT, a1, a2]; rw [if_pos a3]; rfl
theorem mns_bef {x y u v : Int} (p r : Sp) (h1 : x ≤ y) (h2 : v < x) (h3 : u ≤ v) : mns2 ⟨⟨x, y⟩, p⟩ ⟨⟨u, v⟩, r⟩ = [⟨⟨x, y⟩, p⟩] := by
  obtain ⟨a1, a2, a3⟩ := q_bef h1 h2 h3
  simp only [mns2, mnT, a1, a2]; rw [if_pos a3]; rfl
theorem mns_same {x y : Int} (p r : Sp) (h1 : x ≤ y) : mns2 ⟨⟨x, y⟩, p⟩ ⟨⟨x, y⟩, r⟩ = mnB1 ⟨⟨x, y⟩, p⟩ ⟨⟨x, y⟩, r⟩ := by
  obtain ⟨a1, a2, a3, a4⟩ := q_same h1
  simp only [mns2, mnT, a1, a2, a3, a4]; rw [if_neg (by omega)]; rfl
theorem mns_head {x y z : Int} (p r : Sp) (h1 : x ≤ y) (h2 : y < z) : mns2 ⟨⟨x, z⟩, p⟩ ⟨⟨x, y⟩, r⟩ = ⟨⟨y + 1, z⟩, p⟩ :: mnB1 ⟨⟨x, y⟩, p⟩ ⟨⟨x, y⟩, r⟩ := by
  obtain ⟨a1, a2, a3, a4⟩ := q_head h1 h2
  simp only [mns2, mnT, a1, a2, a3, a4]; rw [if_neg (by omega)]; rfl
theorem mb_same {s : Sp} {x y : Int} (h1 : x ≤ y) : mnB1 ⟨s, ⟨x, y⟩⟩ ⟨s, ⟨x, y⟩⟩ = [] := by
  obtain ⟨a1, a2, _⟩ := q_same h1
  simp only [mnB1, a1, a2]; rfl
theorem mb_head {s : Sp} {x y z : Int} (h1 : x ≤ y) (h2 : y < z) : mnB1 ⟨s, ⟨x, z⟩⟩ ⟨s, ⟨x, y⟩⟩ = [⟨s, ⟨y + 1, z⟩⟩] := by
  obtain ⟨a1, a2, _⟩ := q_head h1 h2
  simp only [mnB1, a1, a2]; rfl
theorem mb_bef {s : Sp} {x y u v : Int} (h1 : x ≤ y) (h2 : v < x) (h3 : u ≤ v) : mnB1 ⟨s, ⟨x, y⟩⟩ ⟨s, ⟨u, v⟩⟩ = [⟨s, ⟨x, y⟩⟩] := by
  obtain ⟨a1, a2, _⟩ := q_bef h1 h2 h3
  simp only [mnB1, a1, a2]; rfl
def cand (W T : Sp) (w t : Int) (i : Nat) : Bx := ⟨if i % 2 = 1 then ⟨w + 1, W.hi⟩ else ⟨W.lo, w⟩, if 2 ≤ i then ⟨t + 1, T.hi⟩ else ⟨T.lo, t⟩⟩
def candOk (x : Bx) : Bool := decide (x.a.lo ≤ x.a.hi) && decide (x.b.lo ≤ x.b.hi)
def pts (W T : Sp) (w t : Int) : Nat → List Bx
  | 0 => []
  | k + 1 => pts W T w t k ++ if candOk (cand W T w t k) = true then [cand W T w t k] else []
theorem pts_len {W T : Sp} {w t : Int} : ∀ k : Nat, (pts W T w t k).length ≤ k
  | 0 => by simp [pts]
  | k + 1 => by
    have := pts_len (W := W) (T := T) (w := w) (t := t) k
    simp only [pts, List.length_append]
    split <;> simp <;> omega
structure PtF (W T : Sp) (bs : List Bx) : Prop where
  cv : Cv2P (⟨W, T⟩, bs)
  cn : CnP bs
  ar : arS bs = spW W * spW T
  ins : ∀ x ∈ bs, (W.lo ≤ x.a.lo ∧ x.a.lo ≤ x.a.hi ∧ x.a.hi ≤ W.hi) ∧ T.lo ≤ x.b.lo ∧ x.b.lo ≤ x.b.hi ∧ x.b.hi ≤ T.hi
theorem sub_ok {W T : Sp} (hW : spN W = false) (hT : spN T = false) {x : Bx} (h : (W.lo ≤ x.a.lo ∧ x.a.lo ≤ x.a.hi ∧ x.a.hi ≤ W.hi) ∧ T.lo ≤ x.b.lo ∧ x.b.lo ≤ x.b.hi ∧ x.b.hi ≤ T.hi) : Ok2 x := by
  rw [spN_eq] at hW hT
  simp only [Bool.not_eq_false', decide_eq_true_eq] at hW hT
  constructor <;> rw [spN_eq] <;> simp only [Bool.not_eq_false', decide_eq_true_eq] <;> omega
theorem cn_pw {l : List Bx} (hn : l.length ≤ 20) (hok : ∀ s ∈ l, Ok2 s) (h : l.Pairwise fun x y => mns2 y x = [y]) : CnP l := by
  refine ⟨hn, hok, fun i j x y hx hy hij => ?_⟩
  obtain ⟨hi, ei⟩ := List.getElem?_eq_some_iff.1 hx
  obtain ⟨hj, ej⟩ := List.getElem?_eq_some_iff.1 hy
  have := List.pairwise_iff_getElem.1 h i j hi hj hij
  rw [ei, ej] at this
  exact this
theorem lft_one {a x : Bx} {l r : List Bx} {k : Nat} (hk : l[k]? = some x) (h : lft2 a l k = r) : lft2 a l (k + 1) = rst2 r x := by
  simp only [lft2, h, List.getD, hk, Option.getD_some]
theorem cv_of {W T : Sp} {bs : List Bx} (hW : spN W = false) (hT : spN T = false) (hn : bs.length ≤ 4) (hl : ∀ x ∈ bs, Ok2 x) (L : Nat → List Bx) (h : ∀ k, k ≤ bs.length → lft2 ⟨W, T⟩ bs k = L k) (h0 : L bs.length = []) (hL : ∀ k, k < bs.length → (L k).length ≤ 10 ∧ ∀ x ∈ L k, Ok2 x) : Cv2P (⟨W, T⟩, bs) :=
  ⟨by simp only; omega, ⟨hW, hT⟩, hl, fun k hk => by simp only at hk ⊢; rw [h k (by omega)]; exact ⟨by have := (hL k hk).1; omega, fun x hx => ((hL k hk).2 x hx).bn⟩, by simp only; rw [h _ (Nat.le_refl _)]; exact h0⟩
theorem ins_all {W T : Sp} {l : List Bx} (h : l.all (fun x => decide ((W.lo ≤ x.a.lo ∧ x.a.lo ≤ x.a.hi ∧ x.a.hi ≤ W.hi) ∧ T.lo ≤ x.b.lo ∧ x.b.lo ≤ x.b.hi ∧ x.b.hi ≤ T.hi)) = true) : ∀ x ∈ l, (W.lo ≤ x.a.lo ∧ x.a.lo ≤ x.a.hi ∧ x.a.hi ≤ W.hi) ∧ T.lo ≤ x.b.lo ∧ x.b.lo ≤ x.b.hi ∧ x.b.hi ≤ T.hi := fun x hx => by
  have := List.all_eq_true.1 h x hx
  simpa using this
theorem part1 {x z p r : Int} (hW : spN ⟨x, z⟩ = false) (hT : spN ⟨p, r⟩ = false) (h1 : x ≤ z) (h2 : p ≤ r) : PtF ⟨x, z⟩ ⟨p, r⟩ [⟨⟨x, z⟩, ⟨p, r⟩⟩] := by
  have hi : ∀ s ∈ [(⟨⟨x, z⟩, ⟨p, r⟩⟩ : Bx)], _ := ins_all (W := ⟨x, z⟩) (T := ⟨p, r⟩) (l := [⟨⟨x, z⟩, ⟨p, r⟩⟩]) (by simp; omega)
  have hok : ∀ s ∈ [(⟨⟨x, z⟩, ⟨p, r⟩⟩ : Bx)], Ok2 s := fun s hs => sub_ok hW hT (hi s hs)
  refine ⟨cv_of hW hT (by simp) hok (fun k => match k with | 0 => [⟨⟨x, z⟩, ⟨p, r⟩⟩] | _ => []) ?_ rfl ?_, cn_pw (by simp) hok (by simp), by simp [arS, area], hi⟩
  · intro k hk
    match k, hk with
    | 0, _ => rfl
    | 1, _ =>
      rw [lft_one rfl rfl]
      show mns2 _ _ ++ [] = []
      rw [mns_same _ _ h1, mb_same h2]; rfl
  · intro k hk
    match k, hk with
    | 0, _ => exact ⟨by simp, hok⟩
theorem part2 {x y z p r : Int} (hW : spN ⟨x, z⟩ = false) (hT : spN ⟨p, r⟩ = false) (h1 : x ≤ y) (h2 : y < z) (h3 : p ≤ r) : PtF ⟨x, z⟩ ⟨p, r⟩ [⟨⟨x, y⟩, ⟨p, r⟩⟩, ⟨⟨y + 1, z⟩, ⟨p, r⟩⟩] := by
  have hi : ∀ s ∈ [(⟨⟨x, y⟩, ⟨p, r⟩⟩ : Bx), ⟨⟨y + 1, z⟩, ⟨p, r⟩⟩], _ := ins_all (W := ⟨x, z⟩) (T := ⟨p, r⟩) (l := [⟨⟨x, y⟩, ⟨p, r⟩⟩, ⟨⟨y + 1, z⟩, ⟨p, r⟩⟩]) (by simp; omega)
  have hok : ∀ s ∈ [(⟨⟨x, y⟩, ⟨p, r⟩⟩ : Bx), ⟨⟨y + 1, z⟩, ⟨p, r⟩⟩], Ok2 s := fun s hs => sub_ok hW hT (hi s hs)
  have h0 : Ok2 ⟨⟨x, z⟩, ⟨p, r⟩⟩ := ⟨hW, hT⟩
  refine ⟨cv_of hW hT (by simp) hok (fun k => match k with | 0 => [⟨⟨x, z⟩, ⟨p, r⟩⟩] | 1 => [⟨⟨y + 1, z⟩, ⟨p, r⟩⟩] | _ => []) ?_ rfl ?_, cn_pw (by simp) hok ?_, ?_, hi⟩
  · have e1 : lft2 ⟨⟨x, z⟩, ⟨p, r⟩⟩ [⟨⟨x, y⟩, ⟨p, r⟩⟩, ⟨⟨y + 1, z⟩, ⟨p, r⟩⟩] 1 = [⟨⟨y + 1, z⟩, ⟨p, r⟩⟩] := by
      rw [lft_one rfl rfl]
      show mns2 _ _ ++ [] = _
      rw [mns_head _ _ h1 h2, mb_same h3]; rfl
    intro k hk
    match k, hk with
    | 0, _ => rfl
    | 1, _ => exact e1
    | 2, _ =>
      rw [lft_one rfl e1]
      show mns2 _ _ ++ [] = []
      rw [mns_same _ _ (by omega), mb_same h3]; rfl
  · intro k hk
    match k, hk with
    | 0, _ => exact ⟨by simp, fun s hs => by simp at hs; subst hs; exact h0⟩
    | 1, _ => exact ⟨by simp, fun s hs => by simp at hs; subst hs; exact hok _ (by simp)⟩
  · simp only [List.pairwise_cons, List.mem_singleton, List.not_mem_nil, false_implies, implies_true, List.Pairwise.nil, and_true]
    rintro s rfl
    exact mns_bef _ _ (by omega) (by omega) h1
  · simp only [arS, area, spW]
    rw [Int.add_zero, ← Int.add_mul]; congr 1; omega
theorem part3 {x z p q r : Int} (hW : spN ⟨x, z⟩ = false) (hT : spN ⟨p, r⟩ = false) (h1 : x ≤ z) (h2 : p ≤ q) (h3 : q < r) : PtF ⟨x, z⟩ ⟨p, r⟩ [⟨⟨x, z⟩, ⟨p, q⟩⟩, ⟨⟨x, z⟩, ⟨q + 1, r⟩⟩] := by
  have hi : ∀ s ∈ [(⟨⟨x, z⟩, ⟨p, q⟩⟩ : Bx), ⟨⟨x, z⟩, ⟨q + 1, r⟩⟩], _ := ins_all (W := ⟨x, z⟩) (T := ⟨p, r⟩) (l := [⟨⟨x, z⟩, ⟨p, q⟩⟩, ⟨⟨x, z⟩, ⟨q + 1, r⟩⟩]) (by simp; omega)
  have hok : ∀ s ∈ [(⟨⟨x, z⟩, ⟨p, q⟩⟩ : Bx), ⟨⟨x, z⟩, ⟨q + 1, r⟩⟩], Ok2 s := fun s hs => sub_ok hW hT (hi s hs)
  have h0 : Ok2 ⟨⟨x, z⟩, ⟨p, r⟩⟩ := ⟨hW, hT⟩
  refine ⟨cv_of hW hT (by simp) hok (fun k => match k with | 0 => [⟨⟨x, z⟩, ⟨p, r⟩⟩] | 1 => [⟨⟨x, z⟩, ⟨q + 1, r⟩⟩] | _ => []) ?_ rfl ?_, cn_pw (by simp) hok ?_, ?_, hi⟩
  · have e1 : lft2 ⟨⟨x, z⟩, ⟨p, r⟩⟩ [⟨⟨x, z⟩, ⟨p, q⟩⟩, ⟨⟨x, z⟩, ⟨q + 1, r⟩⟩] 1 = [⟨⟨x, z⟩, ⟨q + 1, r⟩⟩] := by
      rw [lft_one rfl rfl]
      show mns2 _ _ ++ [] = _
      rw [mns_same _ _ h1, mb_head h2 h3]; rfl
    intro k hk
    match k, hk with
    | 0, _ => rfl
    | 1, _ => exact e1
    | 2, _ =>
      rw [lft_one rfl e1]
      show mns2 _ _ ++ [] = []
      rw [mns_same _ _ h1, mb_same (by omega)]; rfl
  · intro k hk
    match k, hk with
    | 0, _ => exact ⟨by simp, fun s hs => by simp at hs; subst hs; exact h0⟩
    | 1, _ => exact ⟨by simp, fun s hs => by simp at hs; subst hs; exact hok _ (by simp)⟩
  · simp only [List.pairwise_cons, List.mem_singleton, List.not_mem_nil, false_implies, implies_true, List.Pairwise.nil, and_true]
    rintro s rfl
    rw [mns_same _ _ h1]
    exact mb_bef (by omega) (by omega) h2
  · simp only [arS, area, spW]
    rw [Int.add_zero, ← Int.mul_add]; congr 1; omega
theorem part4 {x y z p q r : Int} (hW : spN ⟨x, z⟩ = false) (hT : spN ⟨p, r⟩ = false) (h1 : x ≤ y) (h2 : y < z) (h3 : p ≤ q) (h4 : q < r) : PtF ⟨x, z⟩ ⟨p, r⟩ [⟨⟨x, y⟩, ⟨p, q⟩⟩, ⟨⟨y + 1, z⟩, ⟨p, q⟩⟩, ⟨⟨x, y⟩, ⟨q + 1, r⟩⟩, ⟨⟨y + 1, z⟩, ⟨q + 1, r⟩⟩] := by
  have hi : ∀ s ∈ [(⟨⟨x, y⟩, ⟨p, q⟩⟩ : Bx), ⟨⟨y + 1, z⟩, ⟨p, q⟩⟩, ⟨⟨x, y⟩, ⟨q + 1, r⟩⟩, ⟨⟨y + 1, z⟩, ⟨q + 1, r⟩⟩], _ := ins_all (W := ⟨x, z⟩) (T := ⟨p, r⟩) (l := [⟨⟨x, y⟩, ⟨p, q⟩⟩, ⟨⟨y + 1, z⟩, ⟨p, q⟩⟩, ⟨⟨x, y⟩, ⟨q + 1, r⟩⟩, ⟨⟨y + 1, z⟩, ⟨q + 1, r⟩⟩]) (by simp; omega)
  have hok : ∀ s ∈ [(⟨⟨x, y⟩, ⟨p, q⟩⟩ : Bx), ⟨⟨y + 1, z⟩, ⟨p, q⟩⟩, ⟨⟨x, y⟩, ⟨q + 1, r⟩⟩, ⟨⟨y + 1, z⟩, ⟨q + 1, r⟩⟩], Ok2 s := fun s hs => sub_ok hW hT (hi s hs)
  have h0 : Ok2 ⟨⟨x, z⟩, ⟨p, r⟩⟩ := ⟨hW, hT⟩
  have hA : Ok2 ⟨⟨y + 1, z⟩, ⟨p, r⟩⟩ := sub_ok hW hT (by simp only; omega)
  have hB : Ok2 ⟨⟨x, y⟩, ⟨q + 1, r⟩⟩ := sub_ok hW hT (by simp only; omega)
  have hC : Ok2 ⟨⟨y + 1, z⟩, ⟨q + 1, r⟩⟩ := sub_ok hW hT (by simp only; omega)
  refine ⟨cv_of hW hT (by simp) hok (fun k => match k with | 0 => [⟨⟨x, z⟩, ⟨p, r⟩⟩] | 1 => [⟨⟨y + 1, z⟩, ⟨p, r⟩⟩, ⟨⟨x, y⟩, ⟨q + 1, r⟩⟩] | 2 => [⟨⟨y + 1, z⟩, ⟨q + 1, r⟩⟩, ⟨⟨x, y⟩, ⟨q + 1, r⟩⟩] | 3 => [⟨⟨y + 1, z⟩, ⟨q + 1, r⟩⟩] | _ => []) ?_ rfl ?_, cn_pw (by simp) hok ?_, ?_, hi⟩
  · have e1 : lft2 ⟨⟨x, z⟩, ⟨p, r⟩⟩ [⟨⟨x, y⟩, ⟨p, q⟩⟩, ⟨⟨y + 1, z⟩, ⟨p, q⟩⟩, ⟨⟨x, y⟩, ⟨q + 1, r⟩⟩, ⟨⟨y + 1, z⟩, ⟨q + 1, r⟩⟩] 1 = [⟨⟨y + 1, z⟩, ⟨p, r⟩⟩, ⟨⟨x, y⟩, ⟨q + 1, r⟩⟩] := by
      rw [lft_one rfl rfl]
      show mns2 _ _ ++ [] = _
      rw [mns_head _ _ h1 h2, mb_head h3 h4]; rfl
    have e2 : lft2 ⟨⟨x, z⟩, ⟨p, r⟩⟩ [⟨⟨x, y⟩, ⟨p, q⟩⟩, ⟨⟨y + 1, z⟩, ⟨p, q⟩⟩, ⟨⟨x, y⟩, ⟨q + 1, r⟩⟩, ⟨⟨y + 1, z⟩, ⟨q + 1, r⟩⟩] 2 = [⟨⟨y + 1, z⟩, ⟨q + 1, r⟩⟩, ⟨⟨x, y⟩, ⟨q + 1, r⟩⟩] := by
      rw [lft_one rfl e1]
      show mns2 _ _ ++ (mns2 _ _ ++ []) = _
      rw [mns_same _ _ (by omega), mb_head h3 h4, mns_aft _ _ h1 (by omega) (by omega)]; rfl
    have e3 : lft2 ⟨⟨x, z⟩, ⟨p, r⟩⟩ [⟨⟨x, y⟩, ⟨p, q⟩⟩, ⟨⟨y + 1, z⟩, ⟨p, q⟩⟩, ⟨⟨x, y⟩, ⟨q + 1, r⟩⟩, ⟨⟨y + 1, z⟩, ⟨q + 1, r⟩⟩] 3 = [⟨⟨y + 1, z⟩, ⟨q + 1, r⟩⟩] := by
      rw [lft_one rfl e2]
      show mns2 _ _ ++ (mns2 _ _ ++ []) = _
      rw [mns_bef _ _ (by omega) (by omega) h1, mns_same _ _ h1, mb_same (by omega)]; rfl
    intro k hk
    match k, hk with
    | 0, _ => rfl
    | 1, _ => exact e1
    | 2, _ => exact e2
    | 3, _ => exact e3
    | 4, _ =>
      rw [lft_one rfl e3]
      show mns2 _ _ ++ [] = []
      rw [mns_same _ _ (by omega), mb_same (by omega)]; rfl
  · intro k hk
    match k, hk with
    | 0, _ => exact ⟨by simp, fun s hs => by simp at hs; subst hs; exact h0⟩
    | 1, _ => exact ⟨by simp, fun s hs => by simp at hs; rcases hs with rfl | rfl; exact hA; exact hB⟩
    | 2, _ => exact ⟨by simp, fun s hs => by simp at hs; rcases hs with rfl | rfl; exact hC; exact hB⟩
    | 3, _ => exact ⟨by simp, fun s hs => by simp at hs; subst hs; exact hC⟩
  · simp only [List.pairwise_cons, List.mem_cons, List.not_mem_nil, or_false, false_implies, implies_true, List.Pairwise.nil, and_true]
    refine ⟨?_, ?_, ?_⟩
    · rintro s (rfl | rfl | rfl)
      · exact mns_bef _ _ (by omega) (by omega) h1
      · rw [mns_same _ _ h1]; exact mb_bef (by omega) (by omega) h3
      · exact mns_bef _ _ (by omega) (by omega) h1
    · rintro s (rfl | rfl)
      · exact mns_aft _ _ h1 (by omega) (by omega)
      · rw [mns_same _ _ (by omega)]; exact mb_bef (by omega) (by omega) h3
    · rintro s rfl
      exact mns_bef _ _ (by omega) (by omega) h1
  · simp only [arS, area, spW]
    have e : ∀ a b c d : Int, a * c + (b * c + (a * d + (b * d + 0))) = (a + b) * (c + d) := by intro a b c d; grind
    rw [e]; congr 1 <;> omega
theorem pts_part {W T : Sp} {w t : Int} (hW : spN W = false) (hT : spN T = false) (hw : W.lo ≤ w ∧ w ≤ W.hi) (ht : T.lo ≤ t ∧ t ≤ T.hi) : PtF W T (pts W T w t 4) := by
  obtain ⟨x, z⟩ := W; obtain ⟨p, r⟩ := T
  simp only at hw ht
  have c0 : candOk (cand ⟨x, z⟩ ⟨p, r⟩ w t 0) = true := by simp [candOk, cand]; omega
  by_cases h1 : w < z
  · by_cases h2 : t < r
    · have c1 : candOk (cand ⟨x, z⟩ ⟨p, r⟩ w t 1) = true := by simp [candOk, cand]; omega
      have c2 : candOk (cand ⟨x, z⟩ ⟨p, r⟩ w t 2) = true := by simp [candOk, cand]; omega
      have c3 : candOk (cand ⟨x, z⟩ ⟨p, r⟩ w t 3) = true := by simp [candOk, cand]; omega
      simp only [pts, c0, c1, c2, c3]
      exact part4 hW hT hw.1 h1 ht.1 h2
    · have : t = r := by omega
      subst this
      have c1 : candOk (cand ⟨x, z⟩ ⟨p, t⟩ w t 1) = true := by simp [candOk, cand]; omega
      have c2 : candOk (cand ⟨x, z⟩ ⟨p, t⟩ w t 2) = false := by simp [candOk, cand]; omega
      have c3 : candOk (cand ⟨x, z⟩ ⟨p, t⟩ w t 3) = false := by simp [candOk, cand]; omega
      simp only [pts, c0, c1, c2, c3]
      exact part2 hW hT hw.1 h1 ht.1
  · have : w = z := by omega
    subst this
    have c1 : candOk (cand ⟨x, w⟩ ⟨p, r⟩ w t 1) = false := by simp [candOk, cand]; omega
    have c3 : candOk (cand ⟨x, w⟩ ⟨p, r⟩ w t 3) = false := by simp [candOk, cand]; omega
    by_cases h2 : t < r
    · have c2 : candOk (cand ⟨x, w⟩ ⟨p, r⟩ w t 2) = true := by simp [candOk, cand]; omega
      simp only [pts, c0, c1, c2, c3]
      exact part3 hW hT hw.1 ht.1 h2
    · have : t = r := by omega
      subst this
      have c2 : candOk (cand ⟨x, w⟩ ⟨p, t⟩ w t 2) = false := by simp [candOk, cand]; omega
      simp only [pts, c0, c1, c2, c3]
      exact part1 hW hT hw.1 ht.1
end Go.Sx
end
section
/- The parted air: what holds in a part of an air (plain). No conditions. -/
set_option linter.unusedSimpArgs false
set_option linter.unusedSectionVars false
namespace Go.Sx.Rot
open Go.Proofs Go.Sx Go.Sx.Tab
structure Cp2 (t : Tb) : Prop where
  x : t.xs.length ≤ 15
  y : t.ys.length ≤ 15
  v : t.vs.length ≤ 15
theorem cp2_of {t : Tb} (h : farT t = false) : Cp2 t := by
  simp only [farT, Bool.or_eq_false_iff, decide_eq_false_iff_not] at h
  obtain ⟨h0, h1, h2, h3⟩ := h
  exact ⟨by omega, by omega, by omega⟩
theorem farR_ro {r : Ro} (h : farR r = false) : RoP r := by
  simp only [farR, Bool.or_eq_false_iff] at h
  obtain ⟨h0, h1, h2, h3, h4, h5, h6, h7⟩ := h
  have g : ∀ {t : Tb}, farT t = false → TbP t := fun ht => by
    have := cp2_of ht
    exact ⟨by have := this.x; omega, by have := this.y; omega, by have := this.v; omega⟩
  refine ⟨fun x hx => ?_⟩
  simp only [limL, List.mem_cons, List.not_mem_nil, or_false] at hx
  rcases hx with rfl | rfl | rfl | rfl | rfl | rfl | rfl | rfl
  · exact g h0
  · exact g h1
  · exact g h2
  · exact g h3
  · exact g h4
  · exact g h5
  · exact g h6
  · exact g h7
def aiP (a : Ai) (x : Bx) : Ai := ⟨x.a, x.b, a.h, a.v⟩
theorem ai_in {a : Ai} {x : Bx} (h : (a.w.lo ≤ x.a.lo ∧ x.a.lo ≤ x.a.hi ∧ x.a.hi ≤ a.w.hi) ∧ a.t.lo ≤ x.b.lo ∧ x.b.lo ≤ x.b.hi ∧ x.b.hi ≤ a.t.hi) : AiIn (aiP a x) a :=
  ⟨⟨h.1.1, h.1.2.1, h.1.2.2⟩, ⟨h.2.1, h.2.2.1, h.2.2.2⟩, rfl, rfl⟩
theorem wr_bet {s s' : St} (h : Bet s s') : ∀ {l : List Po} {p : Po}, wrN s p l = l.length → wrN s' p l = l.length
  | [], _, _ => rfl
  | q :: l, p, hw => by
    simp only [wrN, List.length_cons] at hw ⊢
    split at hw
    · rename_i hm
      rw [if_pos (h.steps (by omega) hm), wr_bet h (by omega)]
    · omega
theorem covB_iff {s : St} {p : Po} : covB s p = true ↔ Cov s p := by simp [covB]
theorem idx_neg {l : List Po} {P : Po → Bool} : idxZ l P < 0 ↔ ∀ p ∈ l, P p = false := by
  constructor
  · intro h p hp
    obtain ⟨j, hj, rfl⟩ := List.getElem_of_mem hp
    have hx : ¬ ∃ k : Nat, ∃ hk : k < l.length, P l[k] = true ∧ ∀ j (h : j < l.length), j < k → P l[j] = false := by
      rintro ⟨k, hk, h1, h2⟩
      rw [idxZ_at l P hk h1 h2] at h; omega
    induction j using Nat.strongRecOn with
    | ind j ih =>
      cases hp : P l[j] with
      | false => rfl
      | true => exact absurd ⟨j, hj, hp, fun i h hi => ih i hi h (List.getElem_mem h)⟩ hx
  · intro h
    rw [idxZ_none l P fun j hj => h _ (List.getElem_mem hj)]; omega
theorem cld_bet {s s' : St} (h : Bet s s') {l : List Po} (hc : cldB s l = true) : cldB s' l = true := by
  simp only [cldB, Bool.and_eq_true, decide_eq_true_eq] at hc ⊢
  refine ⟨?_, h.away hc.2⟩
  have h1 := hc.1
  unfold cldZ at h1 ⊢
  rw [idx_neg] at h1 ⊢
  intro p hp
  have := h1 p hp
  simp only [unc, Bool.not_eq_false'] at this ⊢
  exact covB_iff.2 (h.cov (covB_iff.1 this))
structure PaF (c : Cr) (a a' : Ai) (f : Fl) (l : List Po) : Prop where
  ca : caE c a' = 0
  hs : ckE (caM c a') .has = 0
  lo : (bndF (powD (caM c a))).lo ≤ (bndF (powD (caM c a'))).lo
  hi : (bndF (powD (caM c a'))).hi ≤ (bndF (powD (caM c a))).hi
  n : (ncF c a').r1.length = (ncF c a).r1.length
  rt : ∀ (v : Nat) (x y : Int), (ncF c a).r1[v]? = some x → (ncF c a').r1[v]? = some y → x ≤ y
  cl : ndE c a f l = 0 → clB c a f l = true → ndE c a' f l = 0 ∧ clB c a' f l = true
theorem al_ca {c : Cr} {a : Ai} {f : Fl} (h : alE c a f = 0) : caE c a = 0 ∧ fdE f = 0 := by
  unfold alE at h
  split at h
  · rename_i h1; exact ⟨h1, h⟩
  · exact absurd h (by assumption)
theorem part_of {c : Cr} {a a' : Ai} {f : Fl} {l : List Po} (h : alE c a f = 0) (hi : AiIn a' a) : PaF c a a' f l := by
  obtain ⟨h1, h2⟩ := al_ca h
  have F := ca_facts h1
  have F' := ca_part F hi
  have hp := pow_part F hi
  have hB := bet_of F hi f
  refine ⟨caE_of F', ck_has0 F', hp.1, hp.2, ?_, ?_, ?_⟩
  · simp only [ncF, rtL_len]
  · intro v x y hx hy
    have h := hB.r1 v
    have e1 : rAt (stOf c a f) 1 v = x := by
      show (ncF c a).r1.getD v 0 = x
      simp [List.getD, hx]
    have e2 : rAt (stOf c a' f) 1 v = y := by
      show (ncF c a').r1.getD v 0 = y
      simp [List.getD, hy]
    rw [e1, e2] at h; exact h
  · intro hn hc
    obtain ⟨k1, k2, k3, k4⟩ := nd_ok hn
    have hw : nsW c a' f = 0 := by rw [nsW, if_pos (caE_of F')]; exact k2
    have hn' : ndE c a' f l = 0 := by rw [ndE, if_pos hw, if_neg (by omega), if_pos (wr_bet hB k4)]
    rw [clB, if_pos hn] at hc
    exact ⟨hn', by rw [clB, if_pos hn']; exact cld_bet hB hc⟩
end Go.Sx.Rot
end
