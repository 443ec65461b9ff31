/- Crew, plain: the rules as the program computes them, with numbers that wrap; of valid duties they are the plain ones. No conditions. -/
import Derived.Test.YtnpdjaikmdagmaaP11
set_option linter.unusedSimpArgs false
set_option linter.unusedVariables false
set_option linter.unusedSectionVars false
set_option linter.unusedSimpArgs false
set_option linter.unusedSectionVars false
namespace Go.Sx
abbrev wr (n : Int) : Int := IntKind.wrap .i64 n
def strW (a b : Int) : Bool := decide (0 ≤ a ∧ a ≤ wr (b - 1)) && decide (b ≤ 2000)
def restW (r : Ro) (x y : Du) : Bool := if y.a < x.a then decide (wr (y.b + r.rst) ≤ x.a) else decide (wr (x.b + r.rst) ≤ y.a)
def nearW (r : Ro) (x d : Du) : Bool := decide (0 ≤ wr (x.a - d.b) ∧ wr (x.a - d.b) ≤ r.rcn)
def recW (r : Ro) (o : List Du) (x : Du) : Bool := decide (x.a ≤ r.rcn) || o.any (nearW r x)
def swpW (to : Int) : List Du → Int → Int → Int
  | [], _, n => n
  | d :: r, done, n => if max d.a done < min d.b to then swpW to r (min d.b to) (wr (n + wr (min d.b to - max d.a done))) else swpW to r done n
section
variable (srt : List Du → List Du)
/-- In how many ticks of a window one works; the duties are sorted so. -/
def wkW (l : List Du) (x y : Int) : Int := swpW y (srt l) x 0
def totW (l : List Du) (W T : Int) : Bool := l.all fun d => decide (wkW srt l d.a (wr (d.a + W)) ≤ T) && decide (wkW srt l (wr (d.b - W)) d.b ≤ T)
def brkW (r : Ro) (o : List Du) (x : Du) : List Int :=
  (if (o.any fun d => !restW r d x) = true then [3] else []) ++ (if r.lng < wr (x.b - x.a) then [4] else []) ++ (if totW srt (o ++ [x]) r.win r.tot = true then [] else [5]) ++ (if recW r o x = true then [] else [6])
def duOkW (r : Ro) (l : List Du) (i : Nat) : Bool :=
  decide (0 ≤ (duAt l i).p ∧ (duAt l i).p ≤ r.ppl.length - 1) && strW (duAt l i).a (duAt l i).b && (decide (i = 0) || decide ((duAt l (i - 1)).a ≤ (duAt l i).a)) && (brkW srt r (own (l.take i) (duAt l i).p) (duAt l i)).isEmpty
def badDuW (r : Ro) (l : List Du) : Int := idxZ (List.range l.length) fun i => !duOkW srt r l i
def chkEW (r : Ro) (l : List Du) : Int × Int := if r.ok = true then (if 60 < l.length then (0, 2) else if 0 ≤ badDuW srt r l then (badDuW srt r l, 101) else (0, 0)) else (0, 100)
def whyW (r : Ro) (l : List Du) (n : Int) (c : Cl) : List Int :=
  (if bit1 (pnAt r n).rat c.craft = true then [] else [1]) ++ (if c.water = true ∧ (pnAt r n).dive < c.b then [2] else []) ++ brkW srt r (own l n) ⟨n, c.a, c.b⟩
def callW (c : Cl) : Bool := strW c.a c.b && decide (0 ≤ c.craft ∧ c.craft ≤ 7)
def chk2W (r : Ro) (l : List Du) (b : Bool) : Int := if (chkEW srt r l).2 = 0 then (if b = true then 0 else 1) else (chkEW srt r l).2
def mayW (r : Ro) (l : List Du) (c : Cl) (i k : Nat) : Bool := decide (i ≠ k) && (decide (2 ≤ (pnAt r i).rank) && (whyW srt r l i c).isEmpty) && (decide (1 ≤ (pnAt r k).rank) && (whyW srt r l k c).isEmpty)
def crwW (r : Ro) (l : List Du) (c : Cl) : List (Int × Int) :=
  (List.range r.ppl.length).flatMap fun i : Nat => ((List.range r.ppl.length).filter fun k : Nat => mayW srt r l c i k).map fun k : Nat => ((i : Int), (k : Int))
/-- The end of the longest duty that begins at a tick: from above. -/
def untW (r : Ro) (o : List Du) (n a : Int) : Nat → Int
  | 0 => 0
  | k + 1 => if (brkW srt r o ⟨n, a, a + (k + 1 : Nat)⟩).isEmpty = true then a + (k + 1 : Nat) else untW r o n a k
end
/-- A sort by the beginnings. -/
structure SrtOk (srt : List Du → List Du) : Prop where
  perm : ∀ l, (∀ d ∈ l, 0 ≤ d.a ∧ d.a ≤ 9223372036854775807) → (srt l).Perm l
  sort : ∀ l, (∀ d ∈ l, 0 ≤ d.a ∧ d.a ≤ 9223372036854775807) → (srt l).Pairwise fun x y => x.a ≤ y.a
theorem Val.beg {l : List Du} (h : Val l) : ∀ d ∈ l, 0 ≤ d.a ∧ d.a ≤ 9223372036854775807 := fun d hd => by have := h d hd; omega
theorem strW_iff {a b : Int} (hb : -9223372036854775808 < b) (hb2 : b ≤ 9223372036854775807) : strW a b = strB a b := by
  unfold strW strB; rw [show wr (b - 1) = b - 1 from wrap_id (by omega) (by omega)]
theorem strW_beg {a b : Int} (h : strW a b = true) : 0 ≤ a ∧ a ≤ 9223372036854775807 := by
  simp [strW] at h
  have : wr (b - 1) ≤ 9223372036854775807 := by
    rw [wr, IntKind.wrap_i64]; omega
  omega
theorem swpW_eq {to : Int} (hto : to ≤ 1000000) : ∀ (l : List Du) (done n : Int), Val l → -1000000 ≤ done → done ≤ to → 0 ≤ n → n ≤ done + 1000000 → swpW to l done n = swp to l done n
  | [], _, _, _, _, _, _, _ => rfl
  | d :: r, done, n, hv, h1, h2, h3, h4 => by
    have hd := hv d (by simp)
    rw [swpW, swp]
    split
    · rename_i h
      rw [show wr (min d.b to - max d.a done) = min d.b to - max d.a done from wrap_id (by omega) (by omega), show wr (n + (min d.b to - max d.a done)) = n + (min d.b to - max d.a done) from wrap_id (by omega) (by omega)]
      exact swpW_eq hto r _ _ (fun x hx => hv x (by simp [hx])) (by omega) (by omega) (by omega) (by omega)
    · exact swpW_eq hto r _ _ (fun x hx => hv x (by simp [hx])) h1 h2 h3 h4
section
variable {srt : List Du → List Du} (hs : SrtOk srt)
include hs
theorem wkW_eq {l : List Du} (hv : Val l) {x y : Int} (hx : -1000000 ≤ x) (hxy : x ≤ y) (hy : y ≤ 1000000) : wkW srt l x y = wk l x y := by
  have hp := hs.perm l hv.beg
  have hv' : Val (srt l) := fun d hd => hv d (hp.mem_iff.1 hd)
  rw [wkW, swpW_eq hy (srt l) x 0 hv' hx hxy (by omega) (by omega), wk_sorted hp (hs.sort l hv.beg) hxy]
theorem totW_eq {l : List Du} (hv : Val l) {W T : Int} (hW : 1 ≤ W ∧ W ≤ 2000) : totW srt l W T = totB l W T := by
  unfold totW totB
  rw [Bool.eq_iff_iff, List.all_eq_true, List.all_eq_true]
  refine forall_congr' fun d => forall_congr' fun hd => ?_
  have := hv d hd
  rw [show wr (d.a + W) = d.a + W from wrap_id (by omega) (by omega), show wr (d.b - W) = d.b - W from wrap_id (by omega) (by omega), wkW_eq hs hv (by omega) (by omega) (by omega), wkW_eq hs hv (by omega) (by omega) (by omega)]
theorem brkW_eq {r : Ro} (hr : r.Fit) {o : List Du} (hv : Val o) {x : Du} (hx : 0 ≤ x.a ∧ x.a < x.b ∧ x.b ≤ 2000) : brkW srt r o x = brk r o x := by
  have h1 := hr.rst
  have e1 : (o.any fun d => !restW r d x) = !(o.all fun d => restB r d x) := by
    rw [List.not_all_eq_any_not, Bool.eq_iff_iff, List.any_eq_true, List.any_eq_true]
    refine exists_congr fun d => and_congr_right fun hd => ?_
    have := hv d hd
    unfold restW restB
    rw [show wr (x.b + r.rst) = x.b + r.rst from wrap_id (by omega) (by omega), show wr (d.b + r.rst) = d.b + r.rst from wrap_id (by omega) (by omega)]
  have e2 : recW r o x = recB r o x := by
    unfold recW recB nearW
    congr 1
    rw [Bool.eq_iff_iff, List.any_eq_true, List.any_eq_true]
    refine exists_congr fun d => and_congr_right fun hd => ?_
    have := hv d hd
    rw [show wr (x.a - d.b) = x.a - d.b from wrap_id (by omega) (by omega)]
  have hv' : Val (o ++ [x]) := fun d hd => by
    rcases List.mem_append.1 hd with h | h
    · exact hv d h
    · have := List.mem_singleton.1 h; subst this; exact hx
  unfold brkW brk
  rw [e1, e2, totW_eq hs hv' hr.win, show wr (x.b - x.a) = x.b - x.a from wrap_id (by omega) (by omega)]
  cases (o.all fun d => restB r d x) <;> simp
theorem whyW_eq {r : Ro} (hr : r.Fit) {l : List Du} (hv : Val l) {n : Int} {c : Cl} (hc : 0 ≤ c.a ∧ c.a < c.b ∧ c.b ≤ 2000) : whyW srt r l n c = whyL r l n c := by
  unfold whyW whyL; rw [brkW_eq hs hr (own_val hv n) hc]
theorem untW_eq {r : Ro} (hr : r.Fit) {o : List Du} (hv : Val o) {n a : Int} (ha : 0 ≤ a) : ∀ k : Nat, a + k ≤ 2000 → untW srt r o n a k = untL r o n a k
  | 0, _ => rfl
  | k + 1, hk => by
    rw [untW, untL, brkW_eq hs hr hv ⟨ha, by simp only; omega, hk⟩, untW_eq hr hv ha k (by omega)]
/-- Right duties are right as the program computes. -/
theorem Rt.duOkW {r : Ro} (hr : r.Fit) {l : List Du} {i : Nat} (hi : i < l.length) (h : Rt r l (i + 1)) : duOkW srt r l i = true := by
  have hk := h i (by omega)
  have hk' := duOk_iff.1 hk
  have hv := Rt.val (n := i) (by omega) fun j hj => h j (by omega)
  unfold Sx.duOkW
  unfold duOk at hk
  rw [strW_iff (by omega) (by omega), brkW_eq hs hr (own_val hv _) hk'.2.1]
  exact hk
theorem chkEW_of {r : Ro} {l : List Du} (h : (chkE r l).2 = 0) : chkEW srt r l = (0, 0) := by
  obtain ⟨h1, h2, h3⟩ := chkE_zero.1 h
  have : badDuW srt r l = -1 := idxZ_none _ _ fun j hj => by
    simp at hj ⊢
    exact Rt.duOkW hs h1 hj fun i hi => h3 i (by omega)
  unfold chkEW
  rw [if_pos (Ro.ok_iff.2 h1), if_neg (by omega), if_neg (by rw [this]; omega)]
end
end Go.Sx
