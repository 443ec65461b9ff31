/- Insertion sort, in plain Lean; the list of slopes. No conditions. -/
import Derived.Test.YtbdphjgpjhlpmaaSyK
set_option linter.unusedSimpArgs false
set_option linter.unusedVariables false
namespace Go.Sx
open Go.Sort

section
variable {α : Type} [Inhabited α] (lt : α → α → Bool)
def sw (L : List α) (k : Nat) : List α := (L.set (k + 1) (L.getD k default)).set k (L.getD (k + 1) default)
def sink : Nat → List α → List α
  | 0, L => L
  | k + 1, L => if lt (L.getD (k + 1) default) (L.getD k default) then sink k (sw L k) else L
def insTo (l : List α) : Nat → List α
  | 0 => l
  | i + 1 => sink lt i (insTo l i)
def insS (l : List α) : List α := insTo lt l l.length
variable {lt}
theorem sw_length (L : List α) (k : Nat) : (sw L k).length = L.length := by simp [sw]
theorem sink_length : ∀ (k : Nat) (L : List α), (sink lt k L).length = L.length
  | 0, _ => rfl
  | k + 1, L => by
    rw [sink]; split
    · rw [sink_length k, sw_length]
    · rfl
theorem insTo_length (l : List α) : ∀ i, (insTo lt l i).length = l.length
  | 0 => rfl
  | i + 1 => by rw [insTo, sink_length, insTo_length l i]
theorem sw_get {L : List α} {k : Nat} (hk : k + 1 < L.length) (j : Nat) : (sw L k).getD j default = if j = k then L.getD (k + 1) default else if j = k + 1 then L.getD k default else L.getD j default := by
  unfold sw
  simp only [List.getD_eq_getElem?_getD, List.getElem?_set, List.length_set]
  by_cases h1 : j = k
  · subst h1; simp; rw [if_pos (by omega)]; rfl
  · rw [if_neg (fun e => h1 e.symm), if_neg h1]
    by_cases h2 : j = k + 1
    · subst h2; simp; rw [if_pos (by omega)]; rfl
    · rw [if_neg (fun e => h2 e.symm), if_neg h2]
theorem sw_perm {L : List α} {k : Nat} (hk : k + 1 < L.length) : (sw L k).Perm L := by
  have e1 : L.getD k default = L[k] := by simp [List.getD, List.getElem?_eq_getElem (show k < L.length by omega)]
  have e2 : L.getD (k + 1) default = L[k + 1] := by simp [List.getD, List.getElem?_eq_getElem hk]
  have hsplit : L = L.take k ++ L[k] :: L[k + 1] :: L.drop (k + 2) := by
    rw [← List.drop_eq_getElem_cons hk, ← List.drop_eq_getElem_cons (show k < L.length by omega), List.take_append_drop]
  have hlk : (L.take k).length = k := by rw [List.length_take]; omega
  have : sw L k = L.take k ++ L[k + 1] :: L[k] :: L.drop (k + 2) := by
    apply List.ext_getElem?
    intro j
    have hg := sw_get hk j
    by_cases hj : j < L.length
    · have hj' : j < (sw L k).length := by rw [sw_length]; exact hj
      have h3 : (sw L k)[j]? = some ((sw L k).getD j default) := by simp [List.getD, List.getElem?_eq_getElem hj']
      rw [h3, hg, e1, e2]
      rcases Nat.lt_trichotomy j k with h | h | h
      · rw [if_neg (by omega), if_neg (by omega), List.getElem?_append_left (by omega), List.getElem?_take_of_lt h]
        simp [List.getD, List.getElem?_eq_getElem hj]
      · subst h; rw [if_pos rfl, List.getElem?_append_right (by omega), hlk]; simp
      · by_cases h4 : j = k + 1
        · subst h4; rw [if_neg (by omega), if_pos rfl, List.getElem?_append_right (by omega), hlk]; simp
        · rw [if_neg (by omega), if_neg h4, List.getElem?_append_right (by omega), hlk]
          obtain ⟨m, rfl⟩ : ∃ m, j = k + 2 + m := ⟨j - (k + 2), by omega⟩
          rw [show k + 2 + m - k = m + 2 by omega]
          simp only [List.getElem?_cons_succ, List.getElem?_drop]
          simp [List.getD, List.getElem?_eq_getElem hj]
    · rw [List.getElem?_eq_none (by rw [sw_length]; omega), List.getElem?_eq_none (by simp; omega)]
  rw [this]
  conv => rhs; rw [hsplit]
  exact List.Perm.append_left _ (List.Perm.swap ..)
theorem sink_perm : ∀ (k : Nat) (L : List α), k < L.length ∨ k = 0 → (sink lt k L).Perm L
  | 0, _, _ => List.Perm.refl _
  | k + 1, L, h => by
    rw [sink]; split
    · exact (sink_perm k (sw L k) (by rw [sw_length]; omega)).trans (sw_perm (by omega))
    · exact List.Perm.refl _
theorem insTo_perm (l : List α) : ∀ i, i ≤ l.length → (insTo lt l i).Perm l
  | 0, _ => List.Perm.refl _
  | i + 1, h => by
    rw [insTo]
    exact (sink_perm i _ (by rw [insTo_length]; omega)).trans (insTo_perm l i (by omega))
/-- All of the first n are in order, but for the one at k, which is not above those behind it. -/
structure Sinks (lt : α → α → Bool) (n k : Nat) (L : List α) : Prop where
  pair : ∀ a b, a < b → b < n → a ≠ k → b ≠ k → lt (L.getD b default) (L.getD a default) = false
  right : ∀ b, k < b → b < n → lt (L.getD b default) (L.getD k default) = false
theorem SWO.asymm {β : Type} {lt : β → β → Bool} (hO : SWO lt) {x y : β} (h : lt x y = true) : lt y x = false := by
  cases h2 : lt y x with
  | false => rfl
  | true => have := hO.trans _ _ _ h h2; rw [hO.irrefl] at this; cases this
theorem sink_asc (hO : SWO lt) (n : Nat) : ∀ (k : Nat) (L : List α), n ≤ L.length → k < n → Sinks lt n k L → ∀ a b, a < b → b < n → lt ((sink lt k L).getD b default) ((sink lt k L).getD a default) = false
  | 0, L, hn, hk, hS, a, b, hab, hb => by
    rw [sink]
    by_cases h : a = 0
    · subst h; exact hS.right b hab hb
    · exact hS.pair a b hab hb h (by omega)
  | k + 1, L, hn, hk, hS, a, b, hab, hb => by
    rw [sink]
    split
    · rename_i hlt
      have hg := sw_get (L := L) (k := k) (by omega)
      refine sink_asc hO n k (sw L k) (by rw [sw_length]; exact hn) (by omega) ⟨fun a b hab hb ha hbk => ?_, fun b hkb hb => ?_⟩ a b hab hb
      · rw [hg a, hg b, if_neg ha, if_neg hbk]
        by_cases h1 : a = k + 1
        · rw [if_pos h1, if_neg (by omega)]
          exact hS.pair k b (by omega) hb (by omega) (by omega)
        · rw [if_neg h1]
          by_cases h2 : b = k + 1
          · rw [if_pos h2]; exact hS.pair a k (by omega) (by omega) (by omega) (by omega)
          · rw [if_neg h2]; exact hS.pair a b hab hb h1 h2
      · rw [hg b, hg k, if_pos rfl, if_neg (by omega)]
        by_cases h2 : b = k + 1
        · rw [if_pos h2]; exact SWO.asymm hO hlt
        · rw [if_neg h2]; exact hS.right b (by omega) hb
    · rename_i hlt
      have hlt' : lt (L.getD (k + 1) default) (L.getD k default) = false := by simpa using hlt
      by_cases h1 : a = k + 1
      · subst h1; exact hS.right b hab hb
      · by_cases h2 : b = k + 1
        · subst h2
          by_cases h3 : a = k
          · subst h3; exact hlt'
          · exact hO.ntrans _ _ _ hlt' (hS.pair a k (by omega) (by omega) h1 (by omega))
        · exact hS.pair a b hab hb h1 h2
theorem insTo_asc (hO : SWO lt) (l : List α) : ∀ i, i ≤ l.length → ∀ a b, a < b → b < i → lt ((insTo lt l i).getD b default) ((insTo lt l i).getD a default) = false
  | 0, _, a, b, _, hb => by omega
  | i + 1, h, a, b, hab, hb => by
    rw [insTo]
    refine sink_asc hO (i + 1) i (insTo lt l i) (by rw [insTo_length]; omega) (by omega) ⟨fun a b hab hb ha hbi => ?_, fun b h1 h2 => by omega⟩ a b hab hb
    exact insTo_asc hO l i (by omega) a b hab (by omega)
theorem insS_asc (hO : SWO lt) (l : List α) : Asc lt (insS lt l) := by
  intro i j hi hj hij
  have hl : (insS lt l).length = l.length := insTo_length l _
  have := insTo_asc hO l l.length (Nat.le_refl _) i j hij (by omega)
  have e1 : (insTo lt l l.length).getD i default = (insS lt l)[i] := by show (insS lt l).getD i default = _; simp [List.getD, List.getElem?_eq_getElem hi]
  have e2 : (insTo lt l l.length).getD j default = (insS lt l)[j] := by show (insS lt l).getD j default = _; simp [List.getD, List.getElem?_eq_getElem hj]
  rw [e1, e2] at this
  exact this
theorem insS_perm (l : List α) : (insS lt l).Perm l := insTo_perm l _ (Nat.le_refl _)
theorem insS_length (l : List α) : (insS lt l).length = l.length := insTo_length l _
end

def slRow (h v : List Int) (k i : Nat) : List (Int × Int) := (List.range i).map fun j => (v.getD k 0 - v.getD j 0, h.getD k 0 - h.getD j 0)
def slTo (h v : List Int) (k : Nat) : List (Int × Int) := (List.range k).flatMap fun j => slRow h v j j
theorem slRow_succ (h v : List Int) (k i : Nat) : slRow h v k (i + 1) = slRow h v k i ++ [(v.getD k 0 - v.getD i 0, h.getD k 0 - h.getD i 0)] := by
  unfold slRow; rw [List.range_succ, List.map_append]; rfl
theorem slTo_succ (h v : List Int) (k : Nat) : slTo h v (k + 1) = slTo h v k ++ slRow h v k k := by
  unfold slTo; rw [List.range_succ, List.flatMap_append]; simp
theorem slRow_length (h v : List Int) (k i : Nat) : (slRow h v k i).length = i := by simp [slRow]
theorem slTo_length (h v : List Int) : ∀ k, (slTo h v k).length ≤ k * k
  | 0 => by simp [slTo]
  | k + 1 => by
    have := slTo_length h v k
    rw [slTo_succ, List.length_append, slRow_length, Nat.add_mul, Nat.mul_add]; omega
def mkFr (p : Int × Int) : Frc := if h : frOk p then ⟨p, h⟩ else default
theorem mkFr_val {p : Int × Int} (h : frOk p) : (mkFr p).1 = p := by rw [mkFr, dif_pos h]
theorem mkFr_self (x : Frc) : mkFr x.1 = x := by rw [mkFr, dif_pos x.2]
end Go.Sx
