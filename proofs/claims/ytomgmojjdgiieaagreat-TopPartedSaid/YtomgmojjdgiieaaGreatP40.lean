/- A part of a proof; no conditions. -/
import Derived.Test.YtomgmojjdgiieaaGreatP39
set_option linter.unusedSimpArgs false
set_option linter.unusedVariables false
set_option linter.unusedSectionVars false
section
/- Engine: what a search finds (plain). No conditions. -/
set_option linter.unusedSimpArgs false
set_option linter.unusedSectionVars false
namespace Go.Sx.Rot
open Go.Proofs Go.Sx Go.Sx.Tab
theorem mem_nats {n : Nat} : ∀ {k v : Nat}, n ∈ nats v k ↔ v ≤ n ∧ n < v + k
  | 0, v => by simp only [nats, List.not_mem_nil, false_iff]; omega
  | k + 1, v => by simp only [nats, List.mem_cons, mem_nats (k := k)]; omega
theorem mem_stL {s : St} {p q : Po} {e : Nat} : q ∈ stL s p e ↔ stOk s p q = true ∧ ∃ v h : Nat, q = stQ p v h ∧ (loV p).toNat ≤ v ∧ v < (loV p).toNat + (hiV s p + 1 - loV p).toNat ∧
    (loH s p).toNat ≤ h ∧ h < (loH s p).toNat + (hiH s p e v + 1 - loH s p).toNat := by
  simp only [stL, stV, stRow, stH, List.mem_flatMap, List.mem_filter, List.mem_map, mem_nats]
  constructor
  · rintro ⟨v, hv, ⟨h, hh, rfl⟩, ho⟩
    exact ⟨ho, v, h, rfl, hv.1, hv.2, hh.1, hh.2⟩
  · rintro ⟨ho, v, h, rfl, h1, h2, h3, h4⟩
    exact ⟨v, ⟨h1, h2⟩, ⟨h, ⟨h3, h4⟩, rfl⟩, ho⟩
theorem st_ok {s : St} {p q : Po} {e : Nat} (hp : PoP s p) (hq : q ∈ stL s p e) : PoP s q := by
  obtain ⟨ho, v, h, rfl, h1, h2, h3, h4⟩ := mem_stL.1 hq
  obtain ⟨a1, a2, a3, a4, a5, a6⟩ := hp
  have hx : (stQ p v h).x ≤ 40 := by
    simp only [stOk, Bool.and_eq_true, decide_eq_true_eq] at ho
    exact ho.1
  have b1 : loV p ≤ p.v ∧ 0 ≤ loV p := by unfold loV; split <;> omega
  have b2 : hiV s p ≤ s.x.c.top := by unfold hiV; split <;> omega
  have b3 : 0 ≤ loH s p := by unfold loH; split <;> omega
  have b4 : hiH s p e v ≤ 12 := by unfold hiH; split <;> omega
  refine ⟨?_, hx, ?_, ?_, ?_, ?_⟩ <;> simp only [stQ] <;> omega
inductive Rch (s : St) (p : Po) : Po → Prop
  | refl : Rch s p p
  | step {q r : Po} : Rch s p q → r ∈ stL s q 1 → Rch s p r
theorem Rch.trans {s : St} {p q r : Po} (h1 : Rch s p q) (h2 : Rch s q r) : Rch s p r := by
  induction h2 with
  | refl => exact h1
  | step _ hm ih => exact .step ih hm
def kn (L : List (Po × Po)) (q : Po) : Bool := L.any fun x => decide (x.1 = q)
def addK (p : Po) (L : List (Po × Po)) (q : Po) : List (Po × Po) := if kn L q = true then L else L ++ [(q, p)]
def expK (p : Po) (L : List (Po × Po)) (qs : List Po) : List (Po × Po) := qs.foldl (addK p) L
theorem kn_iff {L : List (Po × Po)} {q : Po} : kn L q = true ↔ q ∈ L.map (·.1) := by
  simp only [kn, List.any_eq_true, decide_eq_true_eq, List.mem_map]
theorem kn_app {L r : List (Po × Po)} {q : Po} (h : kn L q = true) : kn (L ++ r) q = true := by
  rw [kn_iff] at h ⊢; rw [List.map_append]; exact List.mem_append_left _ h
structure Srch (s : St) (f : Po) (E : Po → Bool) (L : List (Po × Po)) (i : Nat) : Prop where
  nd : (L.map (·.1)).Nodup
  hd : L[0]? = some (f, f)
  pr : ∀ k x, L[k]? = some x → 0 < k → ∃ j y, j < k ∧ L[j]? = some y ∧ x.2 = y.1
  rc : ∀ x ∈ L, Rch s f x.1
  ok : ∀ x ∈ L, PoP s x.1
  dn : ∀ k x, k < i → L[k]? = some x → E x.1 = false ∧ ∀ q ∈ stL s x.1 1, kn L q = true
theorem srch_0 {s : St} {f : Po} {E : Po → Bool} (hf : PoP s f) : Srch s f E [(f, f)] 0 := by
  refine ⟨by simp, rfl, fun k x hx hk => ?_, fun x hx => ?_, fun x hx => ?_, fun k x hk => by omega⟩
  · have := (List.getElem?_eq_some_iff.1 hx).1
    simp at this; omega
  · simp at hx; subst hx; exact .refl
  · simp at hx; subst hx; exact hf
structure Ext (s : St) (f : Po) (E : Po → Bool) (L0 L : List (Po × Po)) (i : Nat) : Prop where
  c : Srch s f E L i
  p : ∃ r, L = L0 ++ r
theorem srch_add {s : St} {f p : Po} {E : Po → Bool} {L : List (Po × Po)} {i : Nat} {p' : Po} (h : Srch s f E L i) (hp : L[i]? = some (p, p')) {q : Po} (hq : q ∈ stL s p 1) : Srch s f E (addK p L q) i := by
  unfold addK
  split
  · exact h
  rename_i hk
  have hil : i < L.length := (List.getElem?_eq_some_iff.1 hp).1
  have hpm := List.mem_of_getElem? hp
  refine ⟨?_, ?_, fun k x hx hk0 => ?_, fun x hx => ?_, fun x hx => ?_, fun k x hki hx => ?_⟩
  · rw [List.map_append, List.nodup_append]
    refine ⟨h.nd, by simp, fun a ha b hb hab => ?_⟩
    simp at hb
    subst hb hab
    exact hk (kn_iff.2 ha)
  · rw [List.getElem?_append_left (by omega)]; exact h.hd
  · by_cases hkl : k < L.length
    · rw [List.getElem?_append_left hkl] at hx
      obtain ⟨j, y, hj, hy, he⟩ := h.pr k x hx hk0
      exact ⟨j, y, hj, by rw [List.getElem?_append_left (by omega)]; exact hy, he⟩
    · have hkl2 : k = L.length := by
        have := (List.getElem?_eq_some_iff.1 hx).1
        simp at this; omega
      subst hkl2
      simp at hx
      subst hx
      exact ⟨i, (p, p'), hil, by rw [List.getElem?_append_left hil]; exact hp, rfl⟩
  · rcases List.mem_append.1 hx with hx | hx
    · exact h.rc x hx
    · simp at hx; subst hx; exact .step (h.rc _ hpm) hq
  · rcases List.mem_append.1 hx with hx | hx
    · exact h.ok x hx
    · simp at hx; subst hx; exact st_ok (h.ok _ hpm) hq
  · rw [List.getElem?_append_left (by omega)] at hx
    obtain ⟨h1, h2⟩ := h.dn k x hki hx
    exact ⟨h1, fun q hq => kn_app (h2 q hq)⟩
theorem addK_pre (p : Po) (L : List (Po × Po)) (q : Po) : ∃ r, addK p L q = L ++ r := by
  unfold addK; split
  · exact ⟨[], by simp⟩
  · exact ⟨_, rfl⟩
theorem addK_kn (p : Po) (L : List (Po × Po)) (q : Po) : kn (addK p L q) q = true := by
  unfold addK; split
  · assumption
  · rw [kn_iff]; simp
theorem srch_exp {s : St} {f p : Po} {E : Po → Bool} {i : Nat} {p' : Po} : ∀ (qs : List Po) (L : List (Po × Po)), Srch s f E L i → L[i]? = some (p, p') → (∀ q ∈ qs, q ∈ stL s p 1) →
    Srch s f E (expK p L qs) i ∧ (∃ r, expK p L qs = L ++ r) ∧ ∀ q ∈ qs, kn (expK p L qs) q = true
  | [], L, h, _, _ => ⟨h, ⟨[], by simp [expK]⟩, fun q hq => by cases hq⟩
  | q :: qs, L, h, hp, hq => by
    have h1 := srch_add h hp (hq q (by simp))
    obtain ⟨r, hr⟩ := addK_pre p L q
    have hp2 : (addK p L q)[i]? = some (p, p') := by
      rw [hr, List.getElem?_append_left (List.getElem?_eq_some_iff.1 hp).1]; exact hp
    obtain ⟨g1, ⟨r2, g2⟩, g3⟩ := srch_exp qs (addK p L q) h1 hp2 (fun x hx => hq x (by simp [hx]))
    have he : expK p L (q :: qs) = expK p (addK p L q) qs := rfl
    rw [he]
    refine ⟨g1, ⟨r ++ r2, by rw [g2, hr, List.append_assoc]⟩, fun x hx => ?_⟩
    rcases List.mem_cons.1 hx with rfl | hx
    · rw [g2]; exact kn_app (addK_kn p L x)
    · exact g3 x hx
theorem srch_next {s : St} {f p : Po} {E : Po → Bool} {i : Nat} {p' : Po} {L : List (Po × Po)} (h : Srch s f E L i) (hp : L[i]? = some (p, p')) (he : E p = false) :
    Srch s f E (expK p L (stL s p 1)) (i + 1) ∧ ∃ r, expK p L (stL s p 1) = L ++ r := by
  obtain ⟨g1, ⟨r, g2⟩, g3⟩ := srch_exp (stL s p 1) L h hp (fun _ h => h)
  refine ⟨⟨g1.nd, g1.hd, g1.pr, g1.rc, g1.ok, fun k x hk hx => ?_⟩, r, g2⟩
  by_cases hki : k = i
  · subst hki
    rw [g2, List.getElem?_append_left (List.getElem?_eq_some_iff.1 hp).1, hp] at hx
    cases hx
    exact ⟨he, g3⟩
  · exact g1.dn k x (by omega) hx
theorem srch_end {s : St} {f : Po} {E : Po → Bool} {L : List (Po × Po)} (h : Srch s f E L L.length) {q : Po} (hq : Rch s f q) : E q = false := by
  have key : kn L q = true := by
    induction hq with
    | refl => exact kn_iff.2 (List.mem_map.2 ⟨_, List.mem_of_getElem? h.hd, rfl⟩)
    | step _ hm ih =>
      obtain ⟨x, hx, rfl⟩ := List.mem_map.1 (kn_iff.1 ih)
      obtain ⟨k, hk, e⟩ := List.getElem_of_mem hx
      exact (h.dn k x hk (by rw [List.getElem?_eq_getElem hk, e])).2 _ hm
  obtain ⟨x, hx, rfl⟩ := List.mem_map.1 (kn_iff.1 key)
  obtain ⟨k, hk, e⟩ := List.getElem_of_mem hx
  exact (h.dn k x hk (by rw [List.getElem?_eq_getElem hk, e])).1
theorem nodup_lt : ∀ (n : Nat) (l : List Nat), l.Nodup → (∀ x ∈ l, x < n) → l.length ≤ n
  | 0, l, _, h => by
    cases l with
    | nil => simp
    | cons x l => exact absurd (h x (by simp)) (by omega)
  | n + 1, l, hn, h => by
    have h1 := nodup_lt n (l.erase n) (hn.erase n) (fun x hx => by
      rw [hn.mem_erase_iff] at hx
      have := h x hx.2
      omega)
    have h2 := List.length_erase (l := l) (a := n)
    split at h2 <;> omega
theorem srch_len {s : St} {f : Po} {E : Po → Bool} {L : List (Po × Po)} {i : Nat} (h : Srch s f E L i) (ht : s.x.c.top ≤ 6) : L.length ≤ 3731 := by
  have hn : ((L.map (·.1)).map fun q : Po => ((q.x * 7 + q.v) * 13 + q.h).toNat).Nodup := by
    unfold List.Nodup
    rw [List.pairwise_map]
    refine List.Pairwise.imp_of_mem (fun {a b} ha hb hne he => hne ?_) h.nd
    obtain ⟨y, hy, rfl⟩ := List.mem_map.1 ha
    obtain ⟨z, hz, rfl⟩ := List.mem_map.1 hb
    obtain ⟨a1, a2, a3, a4, a5, a6⟩ := h.ok y hy
    obtain ⟨b1, b2, b3, b4, b5, b6⟩ := h.ok z hz
    have e1 : y.1.x = z.1.x := by omega
    have e2 : y.1.v = z.1.v := by omega
    have e3 : y.1.h = z.1.h := by omega
    obtain ⟨⟨y1, y2, y3⟩, y4⟩ := y
    obtain ⟨⟨z1, z2, z3⟩, z4⟩ := z
    simp only at e1 e2 e3
    simp only [e1, e2, e3]
  have hl := nodup_lt 3731 _ hn (fun x hx => by
    obtain ⟨q, hq, rfl⟩ := List.mem_map.1 hx
    obtain ⟨y, hy, rfl⟩ := List.mem_map.1 hq
    obtain ⟨a1, a2, a3, a4, a5, a6⟩ := h.ok y hy
    omega)
  simpa using hl
structure Bet (s s' : St) : Prop where
  c : s'.x.c = s.x.c
  f : s'.f = s.f
  r0 : ∀ v, rAt s 0 v ≤ rAt s' 0 v
  r1 : ∀ v, rAt s 1 v ≤ rAt s' 1 v
  w : ∀ v d, wkAt s' v d = true → wkAt s v d = true
theorem Bet.r {s s' : St} (h : Bet s s') {e : Nat} (he : e ≤ 1) (v : Nat) : rAt s e v ≤ rAt s' e v := by
  have : e = 0 ∨ e = 1 := by omega
  rcases this with rfl | rfl
  · exact h.r0 v
  · exact h.r1 v
theorem Bet.down {s s' : St} (h : Bet s s') (p : Po) : downB s' p = downB s p := by simp only [downB, h.c, h.f]
theorem Bet.away {s s' : St} (h : Bet s s') {p : Po} (ha : awayB s p = true) : awayB s' p = true := by
  simp only [awayB, Bool.and_eq_true, decide_eq_true_eq] at ha ⊢
  refine ⟨by rw [h.f]; exact ha.1, by rw [h.f]; exact ha.2.1, ?_⟩
  have := h.r1 p.v.toNat
  have e : ∀ s : St, rAt s 1 p.v.toNat = r1At s p.v := fun _ => rfl
  rw [e, e] at this
  omega
theorem Bet.ok {s s' : St} (h : Bet s s') {p q : Po} (ho : stOk s p q = true) : stOk s' p q = true := by
  simp only [stOk, Bool.and_eq_true, Bool.not_eq_true', decide_eq_true_eq] at ho ⊢
  obtain ⟨h1, h2, h3, h4⟩ := ho
  refine ⟨h1, ?_, ?_, ?_⟩
  · simp only [endsB, h.c, h.down] at h2 ⊢; exact h2
  · cases hs : sinkB s' p q with
    | false => rfl
    | true =>
      have : sinkB s p q = true := by
        simp only [sinkB, Bool.and_eq_true, decide_eq_true_eq] at hs ⊢
        exact ⟨hs.1, hs.2.1, h.w _ _ hs.2.2⟩
      rw [this] at h3; cases h3
  · simp only [clrB, h.f] at h4 ⊢; exact h4
theorem Bet.steps {s s' : St} (h : Bet s s') {e : Nat} (he : e ≤ 1) {p q : Po} (hq : q ∈ stL s p e) : q ∈ stL s' p e := by
  obtain ⟨ho, v, n, rfl, h1, h2, h3, h4⟩ := mem_stL.1 hq
  have e1 : hiV s' p = hiV s p := by simp only [hiV, h.c]
  have e2 : loH s' p = loH s p := by simp only [loH, h.c]
  have e3 : hiH s p e v ≤ hiH s' p e v := by have := h.r he v; unfold hiH; split <;> split <;> omega
  exact mem_stL.2 ⟨h.ok ho, v, n, rfl, h1, by rw [e1]; exact h2, by rw [e2]; exact h3, by rw [e2]; omega⟩
theorem Bet.rch {s s' : St} (h : Bet s s') {p q : Po} (hr : Rch s p q) : Rch s' p q := by
  induction hr with
  | refl => exact .refl
  | step _ hm ih => exact .step ih (h.steps (by omega) hm)
def Cov (s : St) (p : Po) : Prop := ∃ q, Rch s p q ∧ (downB s q = true ∨ awayB s q = true)
theorem Bet.cov {s s' : St} (h : Bet s s') {p : Po} (hc : Cov s p) : Cov s' p := by
  obtain ⟨q, hr, hd | ha⟩ := hc
  · exact ⟨q, h.rch hr, .inl (by rw [h.down]; exact hd)⟩
  · exact ⟨q, h.rch hr, .inr (h.away ha)⟩
theorem Cov.of {s : St} {p q : Po} (hr : Rch s p q) (hc : Cov s q) : Cov s p := by
  obtain ⟨r, h1, h2⟩ := hc
  exact ⟨r, hr.trans h1, h2⟩
end Go.Sx.Rot
end
section
/- Engine: the first pose that is wrong. No conditions. -/
set_option linter.unusedSimpArgs false
set_option linter.unusedSectionVars false
set_option maxRecDepth 100000
set_option maxHeartbeats 8000000
namespace Go.Sx.Rot
open Go.Proofs Go.Sx Go.Sx.Tab
attribute [local irreducible] awp HLe
attribute [local simp] hps_app
@[simp] def poE (p : Po) : List V := [.agg p.row]
theorem poE_inj (a b : Po) (h : poE a = poE b) : a = b := Po.row_inj _ _ (by simpa using h)
theorem poA_inj (a b : Po) (h : poA a = poA b) : a = b := Po.row_inj _ _ (by simpa [poA] using h)
theorem poA_dec (p : Po) : decC poA (poA p) = p := decC_eq poA_inj p
noncomputable abbrev anyS : PSpec := mkP poE (fun _ => True) fun _ => .bool true
noncomputable abbrev E81 : Env := { P := Tryz.prog, fn := tbl [], own := [], key := 8100, nt := 3 }
theorem b81 : PureBody E81 [] Tryz.f81 anyS := by
  refine pb ?_
  rintro p _
  simp -dsimp [Tryz.f81, E81, Po.row]
  repeat' (first | omega | (simp -dsimp [E81, ri, cellp, ints, Po.row]) | (refine Also.intro ?_ fun _ => ?_) | (refine Hold.intro fun _ => ?_) | (refine And.intro ?_ ?_))
theorem ok81 : FnOK Tryz.prog 81 (.pure anyS) := pure_fn (E := E81) rfl LOK.nil (ok := []) (fn := Tryz.f81) (by kernel_rfl) (by kernel_rfl) (by kernel_rfl) (by kernel_rfl) rfl (fun _ _ => by simp) b81
def po0 : Po := ⟨0, 0, 0⟩
def wrN (s : St) : Po → List Po → Nat
  | _, [] => 0
  | p, q :: l => if q ∈ stL s p 0 then wrN s q l + 1 else 0
@[simp] def slpE (d : St × List Po) : List V := [.agg d.1.row, .sl 3 (d.2.map Po.row)]
theorem slpE_inj (a b : St × List Po) (h : slpE a = slpE b) : a = b := by
  obtain ⟨a1, a2⟩ := a; obtain ⟨b1, b2⟩ := b
  simp only [slpE, List.cons.injEq, V.agg.injEq, V.sl.injEq, true_and, and_true] at h
  rw [St.row_inj _ _ h.1, mapRow_inj Po.row_inj h.2]
structure SlpP (d : St × List Po) : Prop where
  s : StP d.1
  l : d.2.length ≤ 30
structure WrS where
  c : Nat
  b : Bool
def wrC (k : Nat) (s : WrS) : List (Nat × Site) := [(4309, { base := k, blks := [{ z := 1, els := [[.bool s.b]], ty := 4 }] }), (4310, { base := s.c, blks := [] })]
theorem wrC_keys (k : Nat) (s : WrS) : (wrC k s).map (·.1) = [4309, 4310] := rfl
theorem wrC_inj (k : Nat) (s s' : WrS) (h : ∀ i ∈ [4309, 4310], hps (wrC k s) noH i = hps (wrC k s') noH i) : s = s' := by
  have h1 := h 4309 (by simp)
  have h2 := h 4310 (by simp)
  simp [wrC, hps] at h1 h2
  obtain ⟨c, b⟩ := s; obtain ⟨c', b'⟩ := s'
  simp only at h1 h2
  rw [h1, h2]
abbrev poPre (_ : WrS) (x : List V) : Prop := ∃ p : Po, x = poA p
noncomputable def wrNx (q : Po) (s : WrS) (x : List V) : WrS := ⟨s.c + 1, s.b || decide (decC poA x = q)⟩
theorem wr_run (q : Po) : ∀ (l : List Po) (s : WrS), (runS poPre (fun _ _ => true) (wrNx q) s (l.map poA)).1 ∧ (runS poPre (fun _ _ => true) (wrNx q) s (l.map poA)).2 = (true, ⟨s.c + l.length, s.b || decide (q ∈ l)⟩)
  | [], s => ⟨trivial, by simp [runS]⟩
  | p :: l, s => by
    obtain ⟨h1, h2⟩ := wr_run q l (wrNx q s (poA p))
    simp only [List.map_cons, runS]
    refine ⟨⟨⟨p, rfl⟩, h1⟩, ?_⟩
    rw [h2]
    simp only [wrNx, poA_dec, Prod.mk.injEq, true_and, WrS.mk.injEq, List.length_cons]
    refine ⟨by omega, ?_⟩
    rw [Bool.or_assoc]
    congr 1
    rw [Bool.eq_iff_iff]
    simp only [Bool.or_eq_true, decide_eq_true_eq, List.mem_cons]
    constructor
    · rintro (h | h)
      · exact .inl h.symm
      · exact .inr h
    · rintro (h | h)
      · exact .inl h.symm
      · exact .inr h
structure WrO (s : St) (l : List Po) where
  k : Nat
  p : Po
  c : Nat
  hk : k ≤ l.length
  hp : PoP s p
  hw : wrN s po0 l = k + wrN s p (l.drop k)
noncomputable abbrev wroS : PSpec := mkP slpE SlpP fun d => if wrN d.1 po0 d.2 = d.2.length then .tup [.int .i64 0, .bool false] else .tup [.int .i64 (wrN d.1 po0 d.2 : Nat), .bool true]
theorem stp_dec (s : St) (p : Po) : decC stpE [.agg [.ip 36 [s.x.row] 0 0, .int .i64 s.f.len, .int .i64 s.f.clr, .int .i64 s.f.safe, .sl 2 (s.f.hs.map Hi.row)], .agg [.int .i64 p.x, .int .i64 p.v, .int .i64 p.h], .int .i64 0] = (p, s, 0) := decC_eq stpE_inj (p, s, 0)
def wrH (p : Po) (k c : Nat) : Hp := hps [(11207, { base := k * 1000000, blks := [] }), (4310, { base := c, blks := [] }), (4309, { base := k, blks := [] }), (4308, { base := k, blks := [] }), (4306, { base := 0, blks := [{ z := 3, els := [p.row], ty := 118 }] }), (4302, { base := 1, blks := [] })] noH
noncomputable abbrev E43 : Env := { P := Tryz.prog, fn := tbl [(76, .pure stpS), (112, .iter stI)], own := [], key := 4300, nt := 34, frz := [(1, [2, 50002]), (5, [8, 50008]), (8, [10, 50010])] }
theorem b43 : PureBody E43 [] Tryz.f43 wroS := by
  refine pb ?_
  rintro ⟨s, l⟩ ⟨hs, hl⟩
  simp only at hs hl
  have hc := crI_b hs.i
  have hp0 : PoP s po0 := ⟨by decide, by decide, by decide, by simp only [po0]; omega, by decide, by decide⟩
  simp -dsimp [Tryz.f43, E43, St.row]
  repeat' (first | omega | (simp -dsimp [E43, ri, cellp, ints, St.row]) | (refine Also.intro ?_ fun _ => ?_) | (refine Hold.intro fun _ => ?_) | (refine And.intro ?_ ?_))
  refine awp_loop [15, 16, 17, 18, 8, 7, 9, 19, 20, 21, 10, 23, 24, 25, 26, 27, 28, 29, 30, 31, 4, 5, 32, 33, 14] (fun q : WrO s l => [(14, (true, .int .i64 (q.k : Nat)))]) (fun q => wrH q.p q.k q.c) (fun q => l.length - q.k) { k := 0, p := po0, c := 0, hk := by omega, hp := hp0, hw := by simp } ?_ ?_ ?_
  · simp [okAll, okv]
  · exact (by (try simp -dsimp only [hpush_noH, hpush_hps, hps_over]); refine hle_hps ?_; simp -dsimp [allK, wrH, po0, Po.row]; repeat' (first | (refine And.intro ?_ ?_) | (refine sLe.same ?_ ?_ <;> (simp; done)) | (refine sLe.clear ?_ ?_ <;> (first | (simp; done) | (simp; omega))) | (refine sLe.drop 1 ?_ ?_ ?_ <;> (simp; done))))
  rintro ⟨k, p, c, hk, hp, hw⟩
  dsimp only
  by_cases hk1 : k < l.length
  case neg =>
    have hkn : ((k : Int) < l.length) = False := eq_false (by omega)
    have hd : l.drop k = [] := List.drop_eq_nil_of_le (by omega)
    rw [hd] at hw
    have hz : wrN s po0 l = l.length := by rw [hw]; simp only [wrN]; omega
    simp -dsimp [hkn]
    repeat' (first | omega | (simp -dsimp [E43, ri, cellp, ints, hkn, hz, wrH]) | (refine Also.intro ?_ fun _ => ?_) | (refine Hold.intro fun _ => ?_) | (refine And.intro ?_ ?_))
  have hki : ((k : Int) < l.length) = True := eq_true (by omega)
  have wk : IntKind.wrap .i64 ((k : Int) + 1) = (k + 1 : Nat) := wrap_id (by omega) (by omega)
  obtain ⟨q, hq, hq'⟩ := get_ex hk1
  have hdk : l.drop k = q :: l.drop (k + 1) := by rw [List.drop_eq_getElem_cons hk1, hq']
  have d1 := stp_dec s p
  obtain ⟨hr1, hr2⟩ := wr_run q (stL s p 0) ⟨c, false⟩
  simp -dsimp [hki]
  repeat' (first | omega | (simp -dsimp [E43, ri, cellp, ints, hki, hk1, hq, hq', d1, wrH, Po.row]) | (refine Also.intro ?_ fun _ => ?_) | (refine Hold.intro fun _ => ?_) | (refine And.intro ?_ ?_))
  refine awp_range (LC := wrC k) (keys := [4309, 4310]) (pre := poPre) (go := fun _ _ => true) (nxt := wrNx q) (wrC_inj k) (wrC_keys k) ⟨c, false⟩ .normal ((stL s p 0).map poA) (own := [11207]) (ro := []) (dec := stDec) (by simp; exact ⟨rfl, rfl⟩) (by simp; rfl) rfl (by decide) (by decide) (by decide) ?_ ?_ ?_ ?_ hr1 ?_ ?_ ?_
  · simp [hps, YS, noH]
  · intro i hi
    simp at hi
    rcases hi with rfl | rfl <;> simp [hps, wrC, noH]
  · intro i hi
    simp at hi
    subst hi
    simp [hps, noH]
  · rw [stDec_at]
    exact ⟨⟨hs, hp, Nat.zero_le 1⟩, rfl⟩
  · rintro ⟨c, b⟩ x hb ⟨y, rfl⟩ hy1 hy2
    refine ⟨rfl, ?_⟩
    have hn : wrNx q ⟨c, b⟩ (poA y) = ⟨c + 1, b || decide (y = q)⟩ := by simp only [wrNx, poA_dec]
    rw [hn]
    have hyq : decide (y = q) = ((y.x == q.x) && ((y.v == q.v) && (y.h == q.h))) := by
      rw [Bool.eq_iff_iff]
      simp only [decide_eq_true_eq, Bool.and_eq_true, beq_iff_eq]
      constructor
      · rintro rfl; exact ⟨rfl, rfl, rfl⟩
      · rintro ⟨h1, h2, h3⟩
        cases y; cases q; simp only at h1 h2 h3; subst h1 h2 h3; rfl
    cases b
    · simp -dsimp [Tryz.f43, E43, setT, wrC, poA, Po.row]
      repeat' (first | omega | (simp -dsimp [E43, ri, cellp, ints, Po.row, hyq]) | (refine Also.intro ?_ fun _ => ?_) | (refine Hold.intro fun _ => ?_) | (refine And.intro ?_ ?_))
      exact (by (try simp -dsimp only [hpush_noH, hpush_hps, hps_over]); refine hle_hpsb ?_; simp -dsimp [allK, Po.row, wrC, hyq]; repeat' (first | (refine And.intro ?_ ?_) | (refine sLe.same ?_ ?_ <;> (simp; done)) | (refine sLe.clear ?_ ?_ <;> (first | (simp; done) | (simp; omega))) | (refine sLe.drop 1 ?_ ?_ ?_ <;> (simp; done))))
    · simp -dsimp [Tryz.f43, E43, setT, wrC, poA, Po.row]
      repeat' (first | omega | (simp -dsimp [E43, ri, cellp, ints, Po.row]) | (refine Also.intro ?_ fun _ => ?_) | (refine Hold.intro fun _ => ?_) | (refine And.intro ?_ ?_))
      exact (by (try simp -dsimp only [hpush_noH, hpush_hps, hps_over]); refine hle_hpsb ?_; simp -dsimp [allK, Po.row, wrC]; repeat' (first | (refine And.intro ?_ ?_) | (refine sLe.same ?_ ?_ <;> (simp; done)) | (refine sLe.clear ?_ ?_ <;> (first | (simp; done) | (simp; omega))) | (refine sLe.drop 1 ?_ ?_ ?_ <;> (simp; done))))
  · intro _
    rw [hr2]
    have hmem : (false || decide (q ∈ stL s p 0)) = decide (q ∈ stL s p 0) := Bool.false_or _
    simp only [hmem]
    have hww : wrN s p (l.drop k) = if q ∈ stL s p 0 then wrN s q (l.drop (k + 1)) + 1 else 0 := by rw [hdk]; rfl
    by_cases hm : q ∈ stL s p 0
    · rw [if_pos hm] at hww
      have hpq := st_ok hp hm
      simp -dsimp [wrC, hm]
      repeat' (first | omega | (simp -dsimp [E43, ri, cellp, ints, wk, hm, Po.row]) | (refine Also.intro ?_ fun _ => ?_) | (refine Hold.intro fun _ => ?_) | (refine And.intro ?_ ?_))
      refine ⟨{ k := k + 1, p := q, c := c + (stL s p 0).length, hk := by omega, hp := hpq, hw := by omega }, tle_chain rfl ?_, ?_, by simp only; omega⟩
      · simp [okAll, okv, wk]
      · exact (by (try simp -dsimp only [hpush_noH, hpush_hps, hps_over]); refine hle_hps ?_; simp -dsimp [allK, wrH, Po.row]; repeat' (first | (refine And.intro ?_ ?_) | (refine sLe.same ?_ ?_ <;> (simp; done)) | (refine sLe.clear ?_ ?_ <;> (first | (simp; done) | (simp; omega))) | (refine sLe.drop 1 ?_ ?_ ?_ <;> (simp; done))))
    · rw [if_neg hm] at hww
      have hz : wrN s po0 l = k := by omega
      have hzl : (k = l.length) = False := eq_false (by omega)
      simp -dsimp [wrC, hm]
      repeat' (first | omega | (simp -dsimp [E43, ri, cellp, ints, hm, hz, hzl, Po.row]) | (refine Also.intro ?_ fun _ => ?_) | (refine Hold.intro fun _ => ?_) | (refine And.intro ?_ ?_))
  · intro h
    rw [hr2] at h
    cases h
theorem ok43 : FnOK Tryz.prog 43 (.pure wroS) := pure_fn (E := E43) rfl (.cons ok76 (.cons ok112 .nil)) (ok := []) (fn := Tryz.f43) (by kernel_rfl) (by kernel_rfl) (by kernel_rfl) (by kernel_rfl) rfl (fun _ _ => by simp) b43
end Go.Sx.Rot
end
