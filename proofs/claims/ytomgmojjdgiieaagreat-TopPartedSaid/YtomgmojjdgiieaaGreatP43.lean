/- Engine: a way, as it is looked for: is there one? No conditions. -/
import Derived.Test.YtomgmojjdgiieaaGreatP42
set_option linter.unusedSimpArgs false
set_option linter.unusedVariables false
set_option linter.unusedSectionVars false
set_option linter.unusedSimpArgs false
set_option linter.unusedSectionVars false
set_option maxRecDepth 100000
set_option maxHeartbeats 16000000
namespace Go.Sx.Rot
open Go.Proofs Go.Sx Go.Sx.Tab
attribute [local irreducible] awp HLe
attribute [local simp] hps_app mpEl_before mpEl_known zMp_po zMp_int cz142 tk142 ag142 by142 cz166 tk166 ag166 by166 zz142 zz166
theorem tle_top {t : Nat → Bool × V} {L : List (Nat × (Bool × V))} (h : okAll t L) : TLe t (upds L topT) := by
  intro k
  by_cases hk : (L.map (·.1)).contains k = true
  · rcases okAll_get (T := topT) h hk with h | h | ⟨ha, hb, hc⟩
    · right; left; exact h.symm
    · left; exact h
    · right; right
      exact ⟨_, Prod.ext ha rfl, _, Prod.ext hb rfl, hc⟩
  · have hk' : (L.map (·.1)).contains k = false := by simpa using hk
    rw [upds_miss hk']
    left; rfl
theorem awp_loop_t {E : Env} {ok : Alts} {c : Code} {t : Nat → Bool × V} {h : Hp} {Q : Ex → Go.Sx.St → Prop} {ι : Type} (L : ι → List (Nat × (Bool × V))) (H : ι → Hp) (m : ι → Nat) (i0 : ι)
    (h1 : okAll t (L i0)) (h2 : HLe h (H i0))
    (h3 : ∀ i, awp E ok c { t := upds (L i) topT, h := H i } fun e st' => match e with
      | .normal => ∃ j, okAll st'.t (L j) ∧ HLe st'.h (H j) ∧ m j < m i
      | e => Q e st') : awp E ok (.loop c) { t := t, h := h } Q := by
  unfold awp
  refine ⟨ι, fun i => { t := upds (L i) topT, h := H i }, m, i0, ⟨_, .refl _, tle_top h1, h2⟩, fun i => ?_⟩
  refine awp_mono c _ _ _ (fun e st' hh => ?_) (h3 i)
  cases e with
  | normal => obtain ⟨j, h4, h5, h6⟩ := hh; exact ⟨j, ⟨tle_top h4, h5⟩, h6⟩
  | exit id => exact hh
  | ret => exact hh
theorem sle_rfl (S : Site) : sLe S S = True := eq_true (.same rfl rfl)
theorem sle_up (a n : Nat) (m : List Mp) : sLe { base := a, blks := [], mps := m } { base := a + n, blks := [], mps := m } = True := eq_true (.clear rfl (by simp) rfl)
theorem hle_key (K : List Nat) {L L' : List (Nat × Site)} {H : Hp} (h : allK (fun k => sLe (hps L H k) (hps L' H k)) K) (hk : ((L.map (·.1) ++ L'.map (·.1)).all fun k => K.contains k) = true) (hy : K.contains 999999999 = false) : HLe (hps L H) (hps L' H) := by
  have hK : ∀ k, k ∈ L.map (·.1) ++ L'.map (·.1) → k ∈ K := fun k hm => by
    have := List.all_eq_true.1 hk k hm
    simpa [List.contains_eq_mem] using this
  have hn : ∀ k, k ∉ K → k ∉ L.map (·.1) ∧ k ∉ L'.map (·.1) := fun k h1 => ⟨fun h => h1 (hK k (List.mem_append_left _ h)), fun h => h1 (hK k (List.mem_append_right _ h))⟩
  have hY : YS ∉ K := by
    intro hm
    have : K.contains 999999999 = true := by simpa [List.contains_eq_mem] using hm
    rw [hy] at this; cases this
  refine .sites (fun s => ?_) ?_
  · by_cases hs : s ∈ K
    · exact allK_mem h s hs
    · rw [hps_not (hn s hs).1, hps_not (hn s hs).2]
      exact .same rfl rfl
  · rw [hps_not (hn _ hY).1, hps_not (hn _ hY).2]
theorem wy_end {s : St} {E : Po → Bool} {n i : Nat} {L : List (Po × Po)} (h : L[i]? = none) : wyF s E n L i = L := by
  cases n with
  | zero => rfl
  | succ n => simp only [wyF, h]
theorem wy_hit {s : St} {E : Po → Bool} {n i : Nat} {L : List (Po × Po)} {x : Po × Po} (h : L[i]? = some x) (he : E x.1 = true) : wyF s E n L i = L := by
  cases n with
  | zero => rfl
  | succ n => simp only [wyF, h, if_pos he]
theorem wy_miss {s : St} {E : Po → Bool} {n i : Nat} {L : List (Po × Po)} {x : Po × Po} (h : L[i]? = some x) (he : E x.1 = false) : wyF s E (n + 1) L i = wyF s E n (expK x.1 L (stL s x.1 1)) (i + 1) := by
  simp only [wyF, h, he]; rfl
theorem wyL_0 (s : St) (E : Po → Bool) (p : Po) : wyF s E (3732 - 0) [(p, p)] 0 = wyL s E p := by rw [Nat.sub_zero]; rfl
open Classical in
noncomputable def fndB (s : St) (E : Po → Bool) (p : Po) : Bool := decide (∃ q, Rch s p q ∧ E q = true)
open Classical in
theorem fnd_hit {s : St} {E : Po → Bool} {f : Po} {i : Nat} {L : List (Po × Po)} (h : Srch s f E L i) {x : Po × Po} (hx : x ∈ L) (he : E x.1 = true) : fndB s E f = true := decide_eq_true ⟨x.1, h.rc x hx, he⟩
open Classical in
theorem fnd_no {s : St} {E : Po → Bool} {f : Po} {L : List (Po × Po)} (h : Srch s f E L L.length) : fndB s E f = false := decide_eq_false fun ⟨q, hq, he⟩ => by
  rw [srch_end h hq] at he; cases he
def wyQ (i : Nat) (L : List (Po × Po)) : List (List V) := (L.drop i).map fun x => x.1.row
def wyN (i : Nat) (L : List (Po × Po)) : Nat := L.length - i
theorem wyQ_len (i : Nat) (L : List (Po × Po)) : (wyQ i L).length = wyN i L := by simp [wyQ, wyN]
theorem wyQ_add {i : Nat} {L : List (Po × Po)} (h : i ≤ L.length) (x : Po × Po) : wyQ i (L ++ [x]) = wyQ i L ++ [[.int .i64 x.1.x, .int .i64 x.1.v, .int .i64 x.1.h]] := by
  rw [wyQ, List.drop_append_of_le_length h, List.map_append]; rfl
theorem wyN_add {i : Nat} {L : List (Po × Po)} (h : i ≤ L.length) (x : Po × Po) : wyN i (L ++ [x]) = wyN i L + 1 := by simp only [wyN, List.length_append, List.length_cons, List.length_nil]; omega
theorem wyQ_head {i : Nat} {L : List (Po × Po)} {x : Po × Po} (h : L[i]? = some x) : wyQ i L = [.int .i64 x.1.x, .int .i64 x.1.v, .int .i64 x.1.h] :: wyQ (i + 1) L := by
  obtain ⟨h1, h2⟩ := List.getElem?_eq_some_iff.1 h
  rw [wyQ, List.drop_eq_getElem_cons h1, h2]; rfl
theorem wyN_head {i : Nat} {L : List (Po × Po)} {x : Po × Po} (h : L[i]? = some x) : wyN i L = wyN (i + 1) L + 1 := by
  have := (List.getElem?_eq_some_iff.1 h).1
  simp only [wyN]; omega
theorem wyQ_0 (p : Po) : wyQ 0 [(p, p)] = [[.int .i64 p.x, .int .i64 p.v, .int .i64 p.h]] := rfl
theorem wyN_0 (p : Po) : wyN 0 [(p, p)] = 1 := rfl
theorem wyN_none {i : Nat} {L : List (Po × Po)} (h : i = L.length) : wyN i L = 0 := by unfold wyN; omega
theorem wyN_le (i : Nat) (L : List (Po × Po)) : wyN i L ≤ L.length := by unfold wyN; omega
theorem po_np {x p : Po} (h : ¬ x = p) : (x.x = p.x ∧ x.v = p.v ∧ x.h = p.h) = False := eq_false fun e => h (by
  obtain ⟨x1, x2, x3⟩ := x; obtain ⟨p1, p2, p3⟩ := p
  simp only at e
  obtain ⟨rfl, rfl, rfl⟩ := e; rfl)
theorem d_step {d i : Nat} (h : d ≤ 1000000 * i) : d + 1000000 ≤ 1000000 * (i + 1) := by rw [Nat.mul_add, Nat.mul_one]; exact Nat.add_le_add_right h _
theorem d_le {d i T : Nat} (h : d ≤ 1000000 * i) (hi : i ≤ 3731) (hT : 4000000000 ≤ T) : d + 1000000 ≤ T := by omega
theorem c_step {c i n : Nat} (h : c ≤ 39 * i) (hn : n ≤ 39) : c + n ≤ 39 * (i + 1) := by rw [Nat.mul_add, Nat.mul_one]; exact Nat.add_le_add h hn
theorem c_le {c i : Nat} (h : c ≤ 39 * i) (hi : i ≤ 3731) : c ≤ 200000 := by omega
theorem nlt1 (a : Nat) : (a + 1 < a) = False := eq_false (by omega)
theorem nsub1 (a : Nat) : a + 1 - a = 1 := by omega
theorem nmax1 (a : Nat) : max a (a + 1) = a + 1 := by omega
theorem po_ne {x p : Po} (h : ¬ x = p) : ((x.x == p.x) && ((x.v == p.v) && (x.h == p.h))) = false := by
  rw [Bool.eq_false_iff]
  intro e
  simp only [Bool.and_eq_true, beq_iff_eq] at e
  obtain ⟨x1, x2, x3⟩ := x; obtain ⟨p1, p2, p3⟩ := p
  simp only at e
  obtain ⟨rfl, rfl, rfl⟩ := e
  exact h rfl
def wyM (L : List (Po × Po)) : Mp := { sc := false, d := [0, 0, 0], es := esL L }
theorem pl_inj {a b : Po} (h : pl a = pl b) : a = b := by
  obtain ⟨a1, a2, a3⟩ := a; obtain ⟨b1, b2, b3⟩ := b
  simpa [pl] using h
theorem esL_inj {a b : List (Po × Po)} (h : esL a = esL b) : a = b := by
  refine (List.map_inj_right (fun x y e => ?_)).1 h
  simp only [Prod.mk.injEq] at e
  exact Prod.ext (pk_inj e.1) (pl_inj e.2)
theorem wyM_inj {a b : List (Po × Po)} (h : wyM a = wyM b) : a = b := esL_inj (by simpa [wyM] using h)
theorem esL_get (L : List (Po × Po)) (k : Int × Int × Int) : ∃ u v w : Int, (mlook (esL L) k).getD [0, 0, 0] = [u, v, w] := by
  have : ∀ l, mlook (esL L) k = some l → ∃ q, l = pl q := by
    induction L with
    | nil => intro l h; simp [esL, mlook] at h
    | cons x L ih =>
      intro l h
      simp only [esL, List.map_cons, mlook] at h ih
      split at h
      · cases h; exact ⟨_, rfl⟩
      · exact ih l h
  cases h : mlook (esL L) k with
  | none => exact ⟨0, 0, 0, rfl⟩
  | some l => obtain ⟨q, rfl⟩ := this l h; exact ⟨_, _, _, rfl⟩
theorem mp_set (ms : List Mp) (M M' : Mp) : (ms ++ [M]).set ms.length M' = ms ++ [M'] := by simp
structure WyD where
  s : St
  p : Po
  es : List Ent
  ms : List Mp
def wyE (d : WyD) : List V := [.agg d.s.row, .agg d.p.row, .int .i64 1, .fn 79 [.ip 5 [d.s.row] 0 0, knV], .fn 81 []]
def TB : Nat := 10000000000
theorem tb_le : 4000000000 ≤ TB := by unfold TB; omega
def wyOwn : List Nat := [7805, 7806, 7809, 7812, 7813, 7814, 7816, 7817, 7824, 7829, 7845, 7903, 11207]
structure WyH (es : List Ent) (ms : List Mp) (h : Hp) : Prop where
  k : knP es h
  o : ∀ k ∈ wyOwn, Cln h k
  m : h 7819 = { base := (h 7819).base, blks := [], mps := ms }
  y : (h YS).blks = [] ∧ (h YS).fl = false
def wyKeys : List Nat := [7819, 4403, 4404, 7805, 7806, 7809, 7812, 7813, 7814, 7816, 7817, 7824, 7829, 7845, 7903, 11207]
def wyLift (n : Nat) (ms : List Mp) (h : Hp) : Hp := hps ((7819, { base := (h 7819).base, blks := [], mps := ms }) :: wyOwn.map fun k => (k, gn ((h k).base + n))) h
noncomputable def wyMs (s : St) (es : List Ent) (p : Po) : Mp := wyM (wyL s (endB s es) p)
noncomputable abbrev wayS : HSpec := mkH wyE (fun d h => WyH d.es d.ms h) (fun d => SpoP (d.s, d.p)) (fun d => .tup [.top, .bool (fndB d.s (endB d.s d.es) d.p)]) (fun d h => wyLift TB (d.ms ++ [wyMs d.s d.es d.p]) h)
theorem wy_inj (d d' : WyD) (h : Hp) (e : wyE d = wyE d') (h1 : WyH d.es d.ms h) (h2 : WyH d'.es d'.ms h) : d = d' := by
  obtain ⟨a1, a2, a3, a4⟩ := d; obtain ⟨b1, b2, b3, b4⟩ := d'
  simp only [wyE, List.cons.injEq, V.agg.injEq, true_and] at e
  have e3 := knP_es h1.k h2.k
  have e4 := h1.m.symm.trans h2.m
  simp only [Site.mk.injEq, true_and, and_true] at e3 e4
  rw [St.row_inj _ _ e.1, Po.row_inj _ _ e.2.1, e3, e4]
theorem way_go (s : St) (p : Po) {es : List Ent} {ms : List Mp} {h : Hp} (hk : WyH es ms h) : wayS.go (wyE ⟨s, p, es, ms⟩) h = ⟨SpoP (s, p), .tup [.top, .bool (fndB s (endB s es) p)], wyLift TB (ms ++ [wyMs s es p]) h⟩ := mkH_at wy_inj (d := ⟨s, p, es, ms⟩) hk
structure WyO (s : St) (f : Po) (E : Po → Bool) where
  L : List (Po × Po)
  i : Nat
  c : Nat
  hs : Srch s f E L i
  hi : i ≤ L.length
  hc : c ≤ 39 * i
  d : Nat
  hd : d ≤ 1000000 * i
  ht : wyF s E (3732 - i) L i = wyL s E f
def wyS0 (b : Nat → Nat) (i : Nat) (L : List (Po × Po)) : List (Nat × Site) := match i with
  | 0 => [(7824, { base := b 7824, blks := [{ z := 3, els := wyQ 0 L, ty := 118 }] }), (7829, gn (b 7829))]
  | j + 1 => [(7824, gn (b 7824 + 1)), (7829, { base := b 7829 + j, blks := [{ z := 3, els := wyQ (j + 1) L, ty := 118 }] })]
def wyV (b : Nat → Nat) (i : Nat) (L : List (Po × Po)) : V := match i with
  | 0 => .bsl 7824 (b 7824) (wyN 0 L)
  | j + 1 => .bsl 7829 (b 7829 + j) (wyN (j + 1) L)
def wyG (b : Nat → Nat) (ms : List Mp) (es : List Ent) (i c d : Nat) (L : List (Po × Po)) : List (Nat × Site) :=
  [(7805, gn (b 7805 + 1)), (7806, gn (b 7806 + 1)), (7809, gn (b 7809 + 1)), (7812, { base := b 7812, blks := [{ z := 1, els := [[.bmp 7819 ms.length]], ty := 166, cl := false }] }),
    (7813, { base := b 7813 + i, blks := [{ z := 1, els := [[wyV b i L]], ty := 37, cl := false }] }), (7814, gn (b 7814 + i)), (7816, gn (b 7816 + c)), (7817, gn (b 7817 + c)),
    (7819, { base := b 7819, blks := [], mps := ms ++ [wyM L] }), (7845, gn (b 7845)), (7903, gn (b 7903 + i)), (11207, gn (b 11207 + d)), (4403, knS1), (4404, knS2 es)]
structure WyS where
  L : List (Po × Po)
  c : Nat
def wyC (b : Nat → Nat) (ms : List Mp) (q : Po) (i c0 qk qi : Nat) (s : WyS) : List (Nat × Site) :=
  [(7812, { base := b 7812, blks := [{ z := 1, els := [[.bmp 7819 ms.length]], ty := 166, cl := false }] }), (7814, { base := b 7814 + i, blks := [{ z := 3, els := [[.int .i64 q.x, .int .i64 q.v, .int .i64 q.h]], ty := 118 }] }), (7813, { base := b 7813 + i, blks := [{ z := 1, els := [[.bsl qk qi (wyN i s.L)]], ty := 37, cl := false }] }), (7816, gn (b 7816 + c0 + s.c)), (7817, gn (b 7817 + c0 + s.c)),
    (7819, { base := b 7819, blks := [], mps := ms ++ [wyM s.L] }), (qk, { base := qi, blks := [{ z := 3, els := wyQ i s.L, ty := 118 }] })]
theorem wyC_inj (b : Nat → Nat) (ms : List Mp) (q : Po) (i c0 qk qi : Nat) (hq : qk = 7824 ∨ qk = 7829) (s s' : WyS) (h : ∀ k ∈ [7812, 7814, 7813, 7816, 7817, 7819, qk], hps (wyC b ms q i c0 qk qi s) noH k = hps (wyC b ms q i c0 qk qi s') noH k) : s = s' := by
  have h1 := h 7816 (by simp)
  have h2 := h 7819 (by simp)
  obtain ⟨L, c⟩ := s; obtain ⟨L', c'⟩ := s'
  simp [wyC, hps, gn] at h1 h2
  rw [wyM_inj h2, h1]
abbrev wyPre (s : St) (i : Nat) (x : WyS) (a : List V) : Prop := (∃ q, a = poA q ∧ PoP s q) ∧ x.L.length ≤ 100000 ∧ i ≤ x.L.length
noncomputable def wyNx (p : Po) (x : WyS) (a : List V) : WyS := ⟨addK p x.L (decC poA a), x.c + 1⟩
theorem wy_run (s : St) (p : Po) (i : Nat) : ∀ (l : List Po) (x : WyS), (∀ q ∈ l, PoP s q) → x.L.length + l.length ≤ 100000 → i ≤ x.L.length → (runS (wyPre s i) (fun _ _ => true) (wyNx p) x (l.map poA)).1 ∧ (runS (wyPre s i) (fun _ _ => true) (wyNx p) x (l.map poA)).2 = (true, ⟨expK p x.L l, x.c + l.length⟩)
  | [], x, _, _, _ => ⟨trivial, by simp [runS, expK]⟩
  | q :: l, x, hl, hn, hi => by
    simp only [List.length_cons] at hn
    have e1 : wyNx p x (poA q) = ⟨addK p x.L q, x.c + 1⟩ := by simp only [wyNx, poA_dec]
    have e2 : (addK p x.L q).length ≤ x.L.length + 1 ∧ x.L.length ≤ (addK p x.L q).length := by unfold addK; split <;> simp
    obtain ⟨h1, h2⟩ := wy_run s p i l ⟨addK p x.L q, x.c + 1⟩ (fun y hy => hl y (by simp [hy])) (by simp only; omega) (by simp only; omega)
    simp only [List.map_cons, runS, e1]
    refine ⟨⟨⟨⟨q, rfl, hl q (by simp)⟩, by omega, hi⟩, h1⟩, ?_⟩
    rw [h2]
    simp only [Prod.mk.injEq, true_and, WyS.mk.injEq, List.length_cons]
    exact ⟨rfl, by omega⟩
structure WyP (L : List (Po × Po)) where
  j : Nat
  x : Po × Po
  M : List Po
  hx : L[j]? = some x
  hm : M.length + j ≤ 3731
theorem rvG (m : Po) (M : List Po) {s i : Nat} {h : Hp} (hB : hget h s i = some { z := 3, els := [.int .i64 m.x, .int .i64 m.v, .int .i64 m.h] :: M.map Po.row, ty := 118 }) : rvS.go [.bsl s i (M.length + 1)] h = ⟨M.length + 1 ≤ 1000000, .tup [], hset h s i (rvB (rvN (M.length + 1) 0 (m :: M)))⟩ := rv_go (L := m :: M) hB
def wyMV (b : Nat → Nat) (M : List Po) : V := match M with
  | [] => .nil
  | _ :: _ => .bsl 7845 (b 7845) M.length
def wyMS (b : Nat → Nat) (M : List Po) : Site := match M with
  | [] => gn (b 7845)
  | _ :: _ => { base := b 7845, blks := [{ z := 3, els := M.map Po.row, ty := 118 }] }
def wyPH (b : Nat → Nat) (ms : List Mp) (es : List Ent) (i c d : Nat) (L : List (Po × Po)) (r : WyP L) : List (Nat × Site) :=
  (7814, { base := b 7814 + i, blks := [{ z := 3, els := [r.x.1.row], ty := 118 }] }) :: (7903, gn (b 7903 + i + 1)) :: (7845, wyMS b r.M) :: wyG b ms es i c d L
def wyT (b : Nat → Nat) (s : St) (p : Po) (i : Nat) : List (Nat × (Bool × V)) :=
  [(13, (true, .bptr 7813 (b 7813 + i) 1 0 0)), (12, (true, .bptr 7812 (b 7812) 1 0 0)), (9, (true, .ip 1 [[.fn 81 []]] 0 0)), (6, (true, .ip 3 [[.int .i64 p.x, .int .i64 p.v, .int .i64 p.h]] 0 0)), (5, (true, .ip 5 [[.ip 36 [s.x.row] 0 0, .int .i64 s.f.len, .int .i64 s.f.clr, .int .i64 s.f.safe, .sl 2 (s.f.hs.map Hi.row)]] 0 0)),
    (3, (true, .fn 79 [.ip 5 [[.ip 36 [s.x.row] 0 0, .int .i64 s.f.len, .int .i64 s.f.clr, .int .i64 s.f.safe, .sl 2 (s.f.hs.map Hi.row)]] 0 0, .bptr 4403 0 1 0 0])), (2, (true, .int .i64 1))]
def wyPT (b : Nat → Nat) (p : Po) (i : Nat) (M : List Po) : List (Nat × (Bool × V)) :=
  [(15, (true, wyMV b M)), (14, (true, .bptr 7814 (b 7814 + i) 1 0 0)), (12, (true, .bptr 7812 (b 7812) 1 0 0)), (6, (true, .ip 3 [[.int .i64 p.x, .int .i64 p.v, .int .i64 p.h]] 0 0))]
theorem stp_dec1 (s : St) (p : Po) : decC stpE [.agg [.ip 36 [s.x.row] 0 0, .int .i64 s.f.len, .int .i64 s.f.clr, .int .i64 s.f.safe, .sl 2 (s.f.hs.map Hi.row)], .agg [.int .i64 p.x, .int .i64 p.v, .int .i64 p.h], .int .i64 1] = (p, s, 1) := decC_eq stpE_inj (p, s, 1)
attribute [local irreducible] wyQ wyN TB
noncomputable abbrev E78 : Env := { P := Tryz.prog, fn := tbl [(79, .heap knEndS), (81, .pure anyS), (76, .pure stpS), (112, .iter stI), (114, .heap rvS)], own := [24, 29], key := 7800, nt := 75, frz := [(1, [5, 50005, 6, 50006, 9, 50009])] }
theorem b78 : HeapBody E78 [] Tryz.f78 wayS := by
  intro args h hc
  obtain ⟨⟨s, p, es, ms⟩, rfl, ⟨⟨hB1, hB2⟩, hO, hM, hY⟩, hP, hgo⟩ := mkH_inv hc
  rw [hgo]; clear hgo hc
  simp only at hB1 hB2 hO hM hP
  obtain ⟨b, hb⟩ : ∃ b : Nat → Nat, b = fun k => (h k).base := ⟨_, rfl⟩
  have hbk : ∀ k, (h k).base = b k := fun k => by rw [hb]
  have hO : ∀ k ∈ wyOwn, h k = gn (b k) := fun k hk => by rw [← hbk]; exact hO k hk
  rw [hbk] at hM
  have hself : hps [(7805, gn (b 7805)), (7806, gn (b 7806)), (7809, gn (b 7809)), (7812, gn (b 7812)), (7813, gn (b 7813)), (7814, gn (b 7814)), (7816, gn (b 7816)), (7817, gn (b 7817)), (7819, { base := b 7819, blks := [], mps := ms }), (7824, gn (b 7824)), (7829, gn (b 7829)), (7845, gn (b 7845)), (7903, gn (b 7903)), (11207, gn (b 11207)), (4403, knS1), (4404, knS2 es)] h = h := hps_self (by
    intro k hk
    simp at hk
    rcases hk with rfl | rfl | rfl | rfl | rfl | rfl | rfl | rfl | rfl | rfl | rfl | rfl | rfl | rfl | rfl | rfl
    all_goals first | (rw [hO _ (by decide)]; rfl) | (rw [hM]; rfl) | (rw [hB1]; rfl) | (rw [hB2]; rfl))
  have hpost : wyLift TB (ms ++ [wyMs s es p]) h = hps [(7819, { base := b 7819, blks := [], mps := ms ++ [wyMs s es p] }), (7805, gn (b 7805 + TB)), (7806, gn (b 7806 + TB)), (7809, gn (b 7809 + TB)), (7812, gn (b 7812 + TB)), (7813, gn (b 7813 + TB)), (7814, gn (b 7814 + TB)), (7816, gn (b 7816 + TB)), (7817, gn (b 7817 + TB)), (7824, gn (b 7824 + TB)), (7829, gn (b 7829 + TB)), (7845, gn (b 7845 + TB)), (7903, gn (b 7903 + TB)), (11207, gn (b 11207 + TB))] h := by
    simp only [wyLift, wyOwn, List.map_cons, List.map_nil, hbk]
  rw [hpost]
  clear hpost hO hM hB1 hB2 hb hbk
  rw [← hself]
  clear hself
  have hs := hP.s
  have hp := hP.p
  simp only at hs hp
  have hcb := crI_b hs.i
  have hkt := kt_po
  have hTB := tb_le
  generalize hE : endB s es = E at *
  have hk := kR_of hs hp
  simp only [pk, kR] at hk
  obtain ⟨⟨k1, k2⟩, ⟨k3, k4⟩, k5, k6⟩ := hk
  have hgo : ∀ (q : Po) (H : Hp), H 4403 = { base := 0, blks := [{ z := 1, els := [[.bmp 4404 0]], ty := 142, cl := false }] } → H 4404 = { base := 0, blks := [], mps := [{ sc := true, d := [0], es := es }] } → H 7903 = { base := (H 7903).base, blks := [] } →
      knEndS.go [.agg [.int .i64 q.x, .int .i64 q.v, .int .i64 q.h], .ip 5 [[.ip 36 [s.x.row] 0 0, .int .i64 s.f.len, .int .i64 s.f.clr, .int .i64 s.f.safe, .sl 2 (s.f.hs.map Hi.row)]] 0 0, .bptr 4403 0 1 0 0] H = ⟨SpoP (s, q), .bool (E q), hps [(7903, gn ((H 7903).base + 1))] H⟩ := fun q H h1 h2 h3 => by
    rw [← hE]; exact knEnd_go s q ⟨h1, h2⟩ h3
  have m0 : mput [] (p.x, p.v, p.h) [p.x, p.v, p.h] = esL [(p, p)] := rfl
  have hys : (7819 = YS) = False := eq_false (by decide)
  have q0 := wyQ_0 p
  have n0 := wyN_0 p
  simp -dsimp [Tryz.f78, E78, wyE, knV, gn, knS1, knS2, knM, St.row, Po.row]
  repeat' (first | omega | (simp -dsimp [E78, ri, cellp, ints, St.row, Po.row, hkt, hys, k1, k2, k3, k4, k5, k6, m0, mp_set, gn, knS1, knS2, knM]) | (refine Also.intro ?_ fun _ => ?_) | (refine Hold.intro fun _ => ?_) | (refine And.intro ?_ ?_))
  refine awp_loop_t (fun q : WyO s p E => wyT b s p q.i) (fun q => hps (wyG b ms es q.i q.c q.d q.L ++ wyS0 b q.i q.L) h) (fun q => 3732 - q.i) { L := [(p, p)], i := 0, c := 0, hs := srch_0 hp, hi := by simp, hc := by omega, d := 0, hd := by omega, ht := wyL_0 s E p } ?_ ?_ ?_
  · simp [okAll, okv, wyT]
  · show HLe _ (hps (wyG b ms es 0 0 0 [(p, p)] ++ wyS0 b 0 [(p, p)]) h)
    exact (by (try simp -dsimp only [hpush_noH, hpush_hps, hps_over]); refine hle_key wyKeys ?_ (by rfl) (by rfl); simp -dsimp [allK, sle_rfl, sle_up, wyKeys, wyG, wyS0, wyV, wyM, m0, q0, n0, gn, knS1, knS2, knM]; repeat' (first | (refine And.intro ?_ ?_) | (refine sLe.same ?_ ?_ <;> (simp; done)) | (refine sLe.clear ?_ ?_ <;> (first | (simp; done) | (simp; omega))) | (refine sLe.drop 1 ?_ ?_ ?_ <;> (first | (simp; done) | (simp; omega)))))
  rintro ⟨L, i, c, hS, hiL, hcc, d, hd, ht⟩
  dsimp only
  have hlen := srch_len hS (by omega)
  have hdT := d_le hd (by omega) hTB
  have hcT := c_le hcc (by omega)
  by_cases hiE : i < L.length
  case neg => as_aux_lemma =>
    have hie : i = L.length := by omega
    have hnn : L[i]? = none := List.getElem?_eq_none (by omega)
    have hT : wyMs s es p = wyM L := by rw [wyMs, hE, ← ht, wy_end hnn]
    have hF : fndB s E p = false := fnd_no (by rw [← hie]; exact hS)
    have h0 := (List.getElem?_eq_some_iff.1 hS.hd).1
    obtain ⟨j, rfl⟩ : ∃ j, i = j + 1 := ⟨i - 1, by omega⟩
    have hN : wyN (j + 1) L = 0 := wyN_none hie
    clear ht hd hcc
    generalize wyMs s es p = W at *
    generalize fndB s E p = fB at *
    subst hT hF
    simp -dsimp [wyT, wyG, wyS0, wyV, gn, knS1, knS2, knM]
    repeat' (first | omega | (simp -dsimp [E78, ri, cellp, ints, hN, gn, knS1, knS2, knM]) | (refine Also.intro ?_ fun _ => ?_) | (refine Hold.intro fun _ => ?_) | (refine And.intro ?_ ?_))
    exact (by (try simp -dsimp only [hpush_noH, hpush_hps, hps_over]); refine hle_key wyKeys ?_ (by rfl) (by rfl); simp -dsimp [allK, sle_rfl, sle_up, wyKeys, gn, knS1, knS2, knM]; repeat' (first | (refine And.intro ?_ ?_) | (refine sLe.same ?_ ?_ <;> (simp; done)) | (refine sLe.clear ?_ ?_ <;> (first | (simp; done) | (simp; omega))) | (refine sLe.drop 1 ?_ ?_ ?_ <;> (first | (simp; done) | (simp; omega)))))
  obtain ⟨⟨q, q'⟩, hq⟩ : ∃ x, L[i]? = some x := ⟨_, List.getElem?_eq_getElem hiE⟩
  have hmem := List.mem_of_getElem? hq
  have hqP : PoP s q := hS.ok _ hmem
  have hsq : SpoP (s, q) := ⟨hs, hqP⟩
  have hgq := hgo q
  have d1 := stp_dec1 s q
  have hkq : kR (q.x, q.v, q.h) := kR_of hs hqP
  cases i
  case zero =>
    have hQ := wyQ_head hq
    have hN := wyN_head hq
    simp only at hQ
    have hpos : ((0 : Int) < (wyN (0 + 1) L : Int) + 1) = True := eq_true (by omega)
    have hpos' : (0 < wyN (0 + 1) L + 1) = True := eq_true (by omega)
    cases he : E q
    case true =>
      have hT : wyMs s es p = wyM L := by rw [wyMs, hE, ← ht, wy_hit hq he]
      have hF : fndB s E p = true := fnd_hit hS hmem he
      clear ht hd hcc
      generalize wyMs s es p = W at *
      generalize fndB s E p = fB at *
      subst hT hF
      simp -dsimp [wyT, wyG, wyS0, wyV, gn, knS1, knS2, knM]
      repeat' (first | omega | (simp -dsimp [E78, ri, cellp, ints, hQ, hN, hpos, hpos', hgq, he, hsq, wyQ_len, gn, knS1, knS2, knM, St.row, Po.row]) | (refine Also.intro ?_ fun _ => ?_) | (refine Hold.intro fun _ => ?_) | (refine And.intro ?_ ?_))
      refine awp_loop_t (fun r : WyP L => wyPT b p 0 r.M) (fun r => hps (wyPH b ms es 0 c d L r ++ wyS0 b 0 L) h) (fun r => r.j) { j := 0, x := (q, q'), M := [], hx := hq, hm := by simp only [List.length_nil]; omega } ?_ ?_ ?_
      · simp [okAll, okv, wyMV, wyPT]
      · exact (by (try simp -dsimp only [hpush_noH, hpush_hps, hps_over]); refine hle_key wyKeys ?_ (by rfl) (by rfl); simp -dsimp [allK, sle_rfl, sle_up, wyKeys, wyPH, wyG, wyS0, wyV, wyMS, hQ, hN, wyQ_len, Po.row, gn, knS1, knS2, knM]; repeat' (first | (refine And.intro ?_ ?_) | (refine sLe.same ?_ ?_ <;> (simp; done)) | (refine sLe.clear ?_ ?_ <;> (first | (simp; done) | (simp; omega))) | (refine sLe.drop 1 ?_ ?_ ?_ <;> (first | (simp; done) | (simp; omega)))))
      rintro ⟨k, ⟨x, x'⟩, M, hx, hm⟩
      dsimp only
      by_cases hxp : x = p
      · subst hxp
        cases M with
        | nil => as_aux_lemma =>
          simp -dsimp [wyPT, wyPH, wyG, wyS0, wyV, wyMV, wyMS, Po.row, gn, knS1, knS2, knM]
          repeat' (first | omega | (simp -dsimp [E78, ri, cellp, ints, rv_nil, Po.row, gn, knS1, knS2, knM]) | (refine Also.intro ?_ fun _ => ?_) | (refine Hold.intro fun _ => ?_) | (refine And.intro ?_ ?_))
          exact (by (try simp -dsimp only [hpush_noH, hpush_hps, hps_over]); refine hle_key wyKeys ?_ (by rfl) (by rfl); simp -dsimp [allK, sle_rfl, sle_up, wyKeys, Po.row, gn, knS1, knS2, knM]; repeat' (first | (refine And.intro ?_ ?_) | (refine sLe.same ?_ ?_ <;> (simp; done)) | (refine sLe.clear ?_ ?_ <;> (first | (simp; done) | (simp; omega))) | (refine sLe.drop 1 ?_ ?_ ?_ <;> (first | (simp; done) | (simp; omega)))))
        | cons m M => as_aux_lemma =>
          simp only [List.length_cons] at hm
          have hml : M.length + 1 ≤ 1000000 := by omega
          simp -dsimp [wyPT, wyPH, wyG, wyS0, wyV, wyMV, wyMS, Po.row, gn, knS1, knS2, knM]
          repeat' (first | omega | (simp -dsimp [E78, ri, cellp, ints, hml, rvG m M, rvB, Po.row, gn, knS1, knS2, knM]) | (refine Also.intro ?_ fun _ => ?_) | (refine Hold.intro fun _ => ?_) | (refine And.intro ?_ ?_))
          exact (by (try simp -dsimp only [hpush_noH, hpush_hps, hps_over]); refine hle_key wyKeys ?_ (by rfl) (by rfl); simp -dsimp [allK, sle_rfl, sle_up, wyKeys, Po.row, gn, knS1, knS2, knM]; repeat' (first | (refine And.intro ?_ ?_) | (refine sLe.same ?_ ?_ <;> (simp; done)) | (refine sLe.clear ?_ ?_ <;> (first | (simp; done) | (simp; omega))) | (refine sLe.drop 1 ?_ ?_ ?_ <;> (first | (simp; done) | (simp; omega)))))
      have hnb : ((x.x == p.x) && ((x.v == p.v) && (x.h == p.h))) = false := po_ne hxp
      have hnp := po_np hxp
      have hk0 : 0 < k := by
        rcases Nat.eq_zero_or_pos k with rfl | h
        · rw [hS.hd] at hx; cases hx; exact absurd rfl hxp
        · exact h
      obtain ⟨k', ⟨y, y'⟩, hk', hy, hxy⟩ := hS.pr k _ hx hk0
      have hlk : (mlook (esL L) (x.x, x.v, x.h)).getD [0, 0, 0] = [y.x, y.v, y.h] := by
        have := mlook_at_esL hS.nd hx
        simp only at hxy
        simp only [pk, pl, hxy] at this
        rw [this]; rfl
      have hkR : kR (x.x, x.v, x.h) := kR_of hs (hS.ok _ (List.mem_of_getElem? hx))
      simp only [kR] at hkR
      obtain ⟨⟨v1, v2⟩, ⟨v3, v4⟩, v5, v6⟩ := hkR
      cases M with
      | nil => as_aux_lemma =>
        simp -dsimp [wyPT, wyPH, wyG, wyS0, wyV, wyMV, wyMS, Po.row, gn, knS1, knS2, knM]
        repeat' (first | omega | (simp -dsimp [E78, ri, cellp, ints, hnb, hnp, hkt, v1, v2, v3, v4, v5, v6, wyM, Mp.get, hlk, Po.row, gn, knS1, knS2, knM]) | (refine Also.intro ?_ fun _ => ?_) | (refine Hold.intro fun _ => ?_) | (refine And.intro ?_ ?_))
        refine ⟨{ j := k', x := (y, y'), M := [x], hx := hy, hm := by simp only [List.length_cons, List.length_nil] at hm ⊢; omega }, ?_, (by (try simp -dsimp only [hpush_noH, hpush_hps, hps_over]); refine hle_key wyKeys ?_ (by rfl) (by rfl); simp -dsimp [allK, sle_rfl, sle_up, wyKeys, wyPH, wyG, wyS0, wyV, wyMS, wyM, Po.row, gn, knS1, knS2, knM]; repeat' (first | (refine And.intro ?_ ?_) | (refine sLe.same ?_ ?_ <;> (simp; done)) | (refine sLe.clear ?_ ?_ <;> (first | (simp; done) | (simp; omega))) | (refine sLe.drop 1 ?_ ?_ ?_ <;> (first | (simp; done) | (simp; omega))))), by simp only; omega⟩
        simp [okAll, okv, wyMV, wyPT]
      | cons m M => as_aux_lemma =>
        simp only [List.length_cons] at hm
        have hml : (M.length + 1 + 1) * 24 ≤ 140737488355328 := by omega
        simp -dsimp [wyPT, wyPH, wyG, wyS0, wyV, wyMV, wyMS, Po.row, gn, knS1, knS2, knM]
        repeat' (first | omega | (simp -dsimp [E78, ri, cellp, ints, hnb, hnp, hkt, v1, v2, v3, v4, v5, v6, wyM, Mp.get, hlk, hml, Po.row, gn, knS1, knS2, knM]) | (refine Also.intro ?_ fun _ => ?_) | (refine Hold.intro fun _ => ?_) | (refine And.intro ?_ ?_))
        refine ⟨{ j := k', x := (y, y'), M := m :: (M ++ [x]), hx := hy, hm := by simp only [List.length_cons, List.length_append, List.length_nil]; omega }, ?_, (by (try simp -dsimp only [hpush_noH, hpush_hps, hps_over]); refine hle_key wyKeys ?_ (by rfl) (by rfl); simp -dsimp [allK, sle_rfl, sle_up, wyKeys, wyPH, wyG, wyS0, wyV, wyMS, wyM, Po.row, gn, knS1, knS2, knM]; repeat' (first | (refine And.intro ?_ ?_) | (refine sLe.same ?_ ?_ <;> (simp; done)) | (refine sLe.clear ?_ ?_ <;> (first | (simp; done) | (simp; omega))) | (refine sLe.drop 1 ?_ ?_ ?_ <;> (first | (simp; done) | (simp; omega))))), by simp only; omega⟩
        simp [okAll, okv, wyMV, wyPT]
    obtain ⟨hS1, r, hr⟩ := srch_next hS hq he
    have hl39 := stL_len (e := 1) hqP (by omega)
    obtain ⟨hr1, hr2⟩ := wy_run s q 0 (stL s q 1) ⟨L, 0⟩ (fun y hy => st_ok hqP hy) (by simp only; omega) (by simp only; omega)
    simp -dsimp [wyT, wyG, wyS0, wyV, gn, knS1, knS2, knM]
    repeat' (first | omega | (simp -dsimp [E78, ri, cellp, ints, hQ, hN, hpos, hpos', hgq, he, hsq, d1, wyQ_len, gn, knS1, knS2, knM, St.row, Po.row]) | (refine Also.intro ?_ fun _ => ?_) | (refine Hold.intro fun _ => ?_) | (refine And.intro ?_ ?_))
    refine awp_range (LC := wyC b ms q 0 c 7824 (b 7824)) (keys := [7812, 7814, 7813, 7816, 7817, 7819, 7824]) (pre := wyPre s 0) (go := fun _ _ => true) (nxt := wyNx q) (wyC_inj b ms q 0 c 7824 (b 7824) (by decide)) (fun _ => rfl) ⟨L, 0⟩ .normal ((stL s q 1).map poA) (own := [11207]) (ro := []) (dec := stDec) (by simp; exact ⟨rfl, rfl⟩) (by simp; rfl) rfl (by decide) (by decide) (by decide) ?_ ?_ ?_ ?_ hr1 ?_ ?_ ?_
    · have hYS : YS = 999999999 := rfl
      rw [hYS] at hY ⊢
      simpa [hps] using hY
    · intro i hi
      simp at hi
      rcases hi with rfl | rfl | rfl | rfl | rfl | rfl | rfl <;> simp [hps, wyC, noH, hQ, hN, gn]
    · intro i hi
      simp at hi
      subst hi
      simp [hps]
    · rw [stDec_at]
      exact ⟨⟨hs, hqP, Nat.le_refl 1⟩, rfl⟩
    · rintro ⟨L', c'⟩ a hb ⟨⟨y, rfl, hyP⟩, hLl, hiL'⟩ hy1 hy2
      refine ⟨rfl, ?_⟩
      simp only at hLl hiL'
      have hn : wyNx q ⟨L', c'⟩ (poA y) = ⟨addK q L' y, c' + 1⟩ := by simp only [wyNx, poA_dec]
      rw [hn]
      have hml : (mlook (esL L') (y.x, y.v, y.h)).isSome = kn L' y := mlook_esL y L'
      obtain ⟨g1, g2, g3, hg⟩ := esL_get L' (y.x, y.v, y.h)
      have hkR : kR (y.x, y.v, y.h) := kR_of hs hyP
      simp only [kR] at hkR
      obtain ⟨⟨v1, v2⟩, ⟨v3, v4⟩, v5, v6⟩ := hkR
      have hdp : decC poE [.agg [.int .i64 y.x, .int .i64 y.v, .int .i64 y.h]] = y := decC_eq poE_inj y
      cases hk : kn L' y with
      | true => as_aux_lemma =>
        have ha : addK q L' y = L' := if_pos hk
        rw [hk] at hml
        simp -dsimp [Tryz.f78, E78, setT, wyC, poA, Po.row, gn]
        repeat' (first | omega | (simp -dsimp [E78, ri, cellp, ints, hkt, v1, v2, v3, v4, v5, v6, hdp, wyM, Mp.get, hml, hg, Po.row, gn]) | (refine Also.intro ?_ fun _ => ?_) | (refine Hold.intro fun _ => ?_) | (refine And.intro ?_ ?_))
        exact (by (try simp -dsimp only [hpush_noH, hpush_hps, hps_over]); refine hle_key [7812, 7814, 7813, 7816, 7817, 7819, 7824] ?_ (by rfl) (by rfl); simp -dsimp [allK, sle_rfl, sle_up, ha, wyC, wyM, Po.row, gn]; repeat' (first | (refine And.intro ?_ ?_) | (refine sLe.same ?_ ?_ <;> (simp; done)) | (refine sLe.clear ?_ ?_ <;> (first | (simp; done) | (simp; omega))) | (refine sLe.drop 1 ?_ ?_ ?_ <;> (first | (simp; done) | (simp; omega)))))
      | false => as_aux_lemma =>
        have ha : addK q L' y = L' ++ [(y, q)] := if_neg (by rw [hk]; decide)
        have hnL : wyN 0 (L' ++ [(y, q)]) = wyN 0 L' + 1 := wyN_add hiL' _
        have hqL : wyQ 0 (L' ++ [(y, q)]) = wyQ 0 L' ++ [[.int .i64 y.x, .int .i64 y.v, .int .i64 y.h]] := wyQ_add hiL' _
        have hmp : mput (esL L') (y.x, y.v, y.h) [q.x, q.v, q.h] = esL (L' ++ [(y, q)]) := mput_esL hk
        have hb24 : (wyN 0 L' + 1) * 24 ≤ 140737488355328 := by have := wyN_le 0 L'; omega
        rw [hk] at hml
        simp -dsimp [Tryz.f78, E78, setT, wyC, poA, Po.row, gn]
        repeat' (first | omega | (simp -dsimp [E78, ri, cellp, ints, hkt, hys, v1, v2, v3, v4, v5, v6, hdp, wyM, Mp.get, hml, hg, hmp, mp_set, hb24, wyQ_len, Po.row, gn]) | (refine Also.intro ?_ fun _ => ?_) | (refine Hold.intro fun _ => ?_) | (refine And.intro ?_ ?_))
        exact (by (try simp -dsimp only [hpush_noH, hpush_hps, hps_over]); refine hle_key [7812, 7814, 7813, 7816, 7817, 7819, 7824] ?_ (by rfl) (by rfl); simp -dsimp [allK, sle_rfl, sle_up, ha, hnL, hqL, wyC, wyM, Po.row, gn]; repeat' (first | (refine And.intro ?_ ?_) | (refine sLe.same ?_ ?_ <;> (simp; done)) | (refine sLe.clear ?_ ?_ <;> (first | (simp; done) | (simp; omega))) | (refine sLe.drop 1 ?_ ?_ ?_ <;> (first | (simp; done) | (simp; omega)))))
    · as_aux_lemma =>
      intro _
      rw [hr2]
      have hq1 : (expK q L (stL s q 1))[0]? = some (q, q') := by rw [hr, List.getElem?_append_left hiE]; exact hq
      have hi1 : 0 + 1 ≤ (expK q L (stL s q 1)).length := (List.getElem?_eq_some_iff.1 hq1).1
      have ht1 : wyF s E (3732 - (0 + 1)) (expK q L (stL s q 1)) (0 + 1) = wyL s E p := by
        rw [← ht, show 3732 - 0 = 3732 - (0 + 1) + 1 by omega, wy_miss hq he]
      have hQ1 := wyQ_head hq1
      have hN1 := wyN_head hq1
      simp only at hQ1
      generalize expK q L (stL s q 1) = L1 at *
      have hto : ((wyN (0 + 1) L1 : Int) + 1).toNat = wyN (0 + 1) L1 + 1 := by omega
      have htk : (wyQ (0 + 1) L1).take (wyN (0 + 1) L1) = wyQ (0 + 1) L1 := List.take_of_length_le (by rw [wyQ_len]; omega)
      simp -dsimp [wyC, gn]
      repeat' (first | omega | (simp -dsimp [E78, ri, cellp, ints, hQ1, hN1, hto, htk, nlt1, nsub1, nmax1, wyQ_len, gn]) | (refine Also.intro ?_ fun _ => ?_) | (refine Hold.intro fun _ => ?_) | (refine And.intro ?_ ?_))
      refine ⟨{ L := L1, i := 0 + 1, c := c + (stL s q 1).length, hs := hS1, hi := hi1, hc := c_step hcc hl39, d := d + 1000000, hd := d_step hd, ht := ht1 }, ?_, ?_, by simp only; omega⟩
      · simp [okAll, okv, wyT, ← Nat.add_assoc]
      · exact (by (try simp -dsimp only [hpush_noH, hpush_hps, hps_over]); refine hle_key wyKeys ?_ (by rfl) (by rfl); simp -dsimp [allK, sle_rfl, sle_up, wyKeys, wyG, wyS0, wyV, wyQ_len, gn, knS1, knS2, knM, ← Nat.add_assoc]; repeat' (first | (refine And.intro ?_ ?_) | (refine sLe.same ?_ ?_ <;> (simp; done)) | (refine sLe.clear ?_ ?_ <;> (first | (simp; done) | (simp; omega))) | (refine sLe.drop 1 ?_ ?_ ?_ <;> (first | (simp; done) | (simp; omega)))))
    · intro h
      rw [hr2] at h
      cases h
  case succ j =>
    have hQ := wyQ_head hq
    have hN := wyN_head hq
    simp only at hQ
    have hpos : ((0 : Int) < (wyN ((j + 1) + 1) L : Int) + 1) = True := eq_true (by omega)
    have hpos' : (0 < wyN ((j + 1) + 1) L + 1) = True := eq_true (by omega)
    cases he : E q
    case true =>
      have hT : wyMs s es p = wyM L := by rw [wyMs, hE, ← ht, wy_hit hq he]
      have hF : fndB s E p = true := fnd_hit hS hmem he
      clear ht hd hcc
      generalize wyMs s es p = W at *
      generalize fndB s E p = fB at *
      subst hT hF
      simp -dsimp [wyT, wyG, wyS0, wyV, gn, knS1, knS2, knM]
      repeat' (first | omega | (simp -dsimp [E78, ri, cellp, ints, hQ, hN, hpos, hpos', hgq, he, hsq, wyQ_len, gn, knS1, knS2, knM, St.row, Po.row]) | (refine Also.intro ?_ fun _ => ?_) | (refine Hold.intro fun _ => ?_) | (refine And.intro ?_ ?_))
      refine awp_loop_t (fun r : WyP L => wyPT b p (j + 1) r.M) (fun r => hps (wyPH b ms es (j + 1) c d L r ++ wyS0 b (j + 1) L) h) (fun r => r.j) { j := (j + 1), x := (q, q'), M := [], hx := hq, hm := by simp only [List.length_nil]; omega } ?_ ?_ ?_
      · simp [okAll, okv, wyMV, wyPT]
      · exact (by (try simp -dsimp only [hpush_noH, hpush_hps, hps_over]); refine hle_key wyKeys ?_ (by rfl) (by rfl); simp -dsimp [allK, sle_rfl, sle_up, wyKeys, wyPH, wyG, wyS0, wyV, wyMS, hQ, hN, wyQ_len, Po.row, gn, knS1, knS2, knM]; repeat' (first | (refine And.intro ?_ ?_) | (refine sLe.same ?_ ?_ <;> (simp; done)) | (refine sLe.clear ?_ ?_ <;> (first | (simp; done) | (simp; omega))) | (refine sLe.drop 1 ?_ ?_ ?_ <;> (first | (simp; done) | (simp; omega)))))
      rintro ⟨k, ⟨x, x'⟩, M, hx, hm⟩
      dsimp only
      by_cases hxp : x = p
      · subst hxp
        cases M with
        | nil => as_aux_lemma =>
          simp -dsimp [wyPT, wyPH, wyG, wyS0, wyV, wyMV, wyMS, Po.row, gn, knS1, knS2, knM]
          repeat' (first | omega | (simp -dsimp [E78, ri, cellp, ints, rv_nil, Po.row, gn, knS1, knS2, knM]) | (refine Also.intro ?_ fun _ => ?_) | (refine Hold.intro fun _ => ?_) | (refine And.intro ?_ ?_))
          exact (by (try simp -dsimp only [hpush_noH, hpush_hps, hps_over]); refine hle_key wyKeys ?_ (by rfl) (by rfl); simp -dsimp [allK, sle_rfl, sle_up, wyKeys, Po.row, gn, knS1, knS2, knM]; repeat' (first | (refine And.intro ?_ ?_) | (refine sLe.same ?_ ?_ <;> (simp; done)) | (refine sLe.clear ?_ ?_ <;> (first | (simp; done) | (simp; omega))) | (refine sLe.drop 1 ?_ ?_ ?_ <;> (first | (simp; done) | (simp; omega)))))
        | cons m M => as_aux_lemma =>
          simp only [List.length_cons] at hm
          have hml : M.length + 1 ≤ 1000000 := by omega
          simp -dsimp [wyPT, wyPH, wyG, wyS0, wyV, wyMV, wyMS, Po.row, gn, knS1, knS2, knM]
          repeat' (first | omega | (simp -dsimp [E78, ri, cellp, ints, hml, rvG m M, rvB, Po.row, gn, knS1, knS2, knM]) | (refine Also.intro ?_ fun _ => ?_) | (refine Hold.intro fun _ => ?_) | (refine And.intro ?_ ?_))
          exact (by (try simp -dsimp only [hpush_noH, hpush_hps, hps_over]); refine hle_key wyKeys ?_ (by rfl) (by rfl); simp -dsimp [allK, sle_rfl, sle_up, wyKeys, Po.row, gn, knS1, knS2, knM]; repeat' (first | (refine And.intro ?_ ?_) | (refine sLe.same ?_ ?_ <;> (simp; done)) | (refine sLe.clear ?_ ?_ <;> (first | (simp; done) | (simp; omega))) | (refine sLe.drop 1 ?_ ?_ ?_ <;> (first | (simp; done) | (simp; omega)))))
      have hnb : ((x.x == p.x) && ((x.v == p.v) && (x.h == p.h))) = false := po_ne hxp
      have hnp := po_np hxp
      have hk0 : 0 < k := by
        rcases Nat.eq_zero_or_pos k with rfl | h
        · rw [hS.hd] at hx; cases hx; exact absurd rfl hxp
        · exact h
      obtain ⟨k', ⟨y, y'⟩, hk', hy, hxy⟩ := hS.pr k _ hx hk0
      have hlk : (mlook (esL L) (x.x, x.v, x.h)).getD [0, 0, 0] = [y.x, y.v, y.h] := by
        have := mlook_at_esL hS.nd hx
        simp only at hxy
        simp only [pk, pl, hxy] at this
        rw [this]; rfl
      have hkR : kR (x.x, x.v, x.h) := kR_of hs (hS.ok _ (List.mem_of_getElem? hx))
      simp only [kR] at hkR
      obtain ⟨⟨v1, v2⟩, ⟨v3, v4⟩, v5, v6⟩ := hkR
      cases M with
      | nil => as_aux_lemma =>
        simp -dsimp [wyPT, wyPH, wyG, wyS0, wyV, wyMV, wyMS, Po.row, gn, knS1, knS2, knM]
        repeat' (first | omega | (simp -dsimp [E78, ri, cellp, ints, hnb, hnp, hkt, v1, v2, v3, v4, v5, v6, wyM, Mp.get, hlk, Po.row, gn, knS1, knS2, knM]) | (refine Also.intro ?_ fun _ => ?_) | (refine Hold.intro fun _ => ?_) | (refine And.intro ?_ ?_))
        refine ⟨{ j := k', x := (y, y'), M := [x], hx := hy, hm := by simp only [List.length_cons, List.length_nil] at hm ⊢; omega }, ?_, (by (try simp -dsimp only [hpush_noH, hpush_hps, hps_over]); refine hle_key wyKeys ?_ (by rfl) (by rfl); simp -dsimp [allK, sle_rfl, sle_up, wyKeys, wyPH, wyG, wyS0, wyV, wyMS, wyM, Po.row, gn, knS1, knS2, knM]; repeat' (first | (refine And.intro ?_ ?_) | (refine sLe.same ?_ ?_ <;> (simp; done)) | (refine sLe.clear ?_ ?_ <;> (first | (simp; done) | (simp; omega))) | (refine sLe.drop 1 ?_ ?_ ?_ <;> (first | (simp; done) | (simp; omega))))), by simp only; omega⟩
        simp [okAll, okv, wyMV, wyPT]
      | cons m M => as_aux_lemma =>
        simp only [List.length_cons] at hm
        have hml : (M.length + 1 + 1) * 24 ≤ 140737488355328 := by omega
        simp -dsimp [wyPT, wyPH, wyG, wyS0, wyV, wyMV, wyMS, Po.row, gn, knS1, knS2, knM]
        repeat' (first | omega | (simp -dsimp [E78, ri, cellp, ints, hnb, hnp, hkt, v1, v2, v3, v4, v5, v6, wyM, Mp.get, hlk, hml, Po.row, gn, knS1, knS2, knM]) | (refine Also.intro ?_ fun _ => ?_) | (refine Hold.intro fun _ => ?_) | (refine And.intro ?_ ?_))
        refine ⟨{ j := k', x := (y, y'), M := m :: (M ++ [x]), hx := hy, hm := by simp only [List.length_cons, List.length_append, List.length_nil]; omega }, ?_, (by (try simp -dsimp only [hpush_noH, hpush_hps, hps_over]); refine hle_key wyKeys ?_ (by rfl) (by rfl); simp -dsimp [allK, sle_rfl, sle_up, wyKeys, wyPH, wyG, wyS0, wyV, wyMS, wyM, Po.row, gn, knS1, knS2, knM]; repeat' (first | (refine And.intro ?_ ?_) | (refine sLe.same ?_ ?_ <;> (simp; done)) | (refine sLe.clear ?_ ?_ <;> (first | (simp; done) | (simp; omega))) | (refine sLe.drop 1 ?_ ?_ ?_ <;> (first | (simp; done) | (simp; omega))))), by simp only; omega⟩
        simp [okAll, okv, wyMV, wyPT]
    obtain ⟨hS1, r, hr⟩ := srch_next hS hq he
    have hl39 := stL_len (e := 1) hqP (by omega)
    obtain ⟨hr1, hr2⟩ := wy_run s q (j + 1) (stL s q 1) ⟨L, 0⟩ (fun y hy => st_ok hqP hy) (by simp only; omega) (by simp only; omega)
    simp -dsimp [wyT, wyG, wyS0, wyV, gn, knS1, knS2, knM]
    repeat' (first | omega | (simp -dsimp [E78, ri, cellp, ints, hQ, hN, hpos, hpos', hgq, he, hsq, d1, wyQ_len, gn, knS1, knS2, knM, St.row, Po.row]) | (refine Also.intro ?_ fun _ => ?_) | (refine Hold.intro fun _ => ?_) | (refine And.intro ?_ ?_))
    refine awp_range (LC := wyC b ms q (j + 1) c 7829 (b 7829 + j)) (keys := [7812, 7814, 7813, 7816, 7817, 7819, 7829]) (pre := wyPre s (j + 1)) (go := fun _ _ => true) (nxt := wyNx q) (wyC_inj b ms q (j + 1) c 7829 (b 7829 + j) (by decide)) (fun _ => rfl) ⟨L, 0⟩ .normal ((stL s q 1).map poA) (own := [11207]) (ro := []) (dec := stDec) (by simp; exact ⟨rfl, rfl⟩) (by simp; rfl) rfl (by decide) (by decide) (by decide) ?_ ?_ ?_ ?_ hr1 ?_ ?_ ?_
    · have hYS : YS = 999999999 := rfl
      rw [hYS] at hY ⊢
      simpa [hps] using hY
    · intro i hi
      simp at hi
      rcases hi with rfl | rfl | rfl | rfl | rfl | rfl | rfl <;> simp [hps, wyC, noH, hQ, hN, gn]
    · intro i hi
      simp at hi
      subst hi
      simp [hps]
    · rw [stDec_at]
      exact ⟨⟨hs, hqP, Nat.le_refl 1⟩, rfl⟩
    · rintro ⟨L', c'⟩ a hb ⟨⟨y, rfl, hyP⟩, hLl, hiL'⟩ hy1 hy2
      refine ⟨rfl, ?_⟩
      simp only at hLl hiL'
      have hn : wyNx q ⟨L', c'⟩ (poA y) = ⟨addK q L' y, c' + 1⟩ := by simp only [wyNx, poA_dec]
      rw [hn]
      have hml : (mlook (esL L') (y.x, y.v, y.h)).isSome = kn L' y := mlook_esL y L'
      obtain ⟨g1, g2, g3, hg⟩ := esL_get L' (y.x, y.v, y.h)
      have hkR : kR (y.x, y.v, y.h) := kR_of hs hyP
      simp only [kR] at hkR
      obtain ⟨⟨v1, v2⟩, ⟨v3, v4⟩, v5, v6⟩ := hkR
      have hdp : decC poE [.agg [.int .i64 y.x, .int .i64 y.v, .int .i64 y.h]] = y := decC_eq poE_inj y
      cases hk : kn L' y with
      | true => as_aux_lemma =>
        have ha : addK q L' y = L' := if_pos hk
        rw [hk] at hml
        simp -dsimp [Tryz.f78, E78, setT, wyC, poA, Po.row, gn]
        repeat' (first | omega | (simp -dsimp [E78, ri, cellp, ints, hkt, v1, v2, v3, v4, v5, v6, hdp, wyM, Mp.get, hml, hg, Po.row, gn]) | (refine Also.intro ?_ fun _ => ?_) | (refine Hold.intro fun _ => ?_) | (refine And.intro ?_ ?_))
        exact (by (try simp -dsimp only [hpush_noH, hpush_hps, hps_over]); refine hle_key [7812, 7814, 7813, 7816, 7817, 7819, 7829] ?_ (by rfl) (by rfl); simp -dsimp [allK, sle_rfl, sle_up, ha, wyC, wyM, Po.row, gn]; repeat' (first | (refine And.intro ?_ ?_) | (refine sLe.same ?_ ?_ <;> (simp; done)) | (refine sLe.clear ?_ ?_ <;> (first | (simp; done) | (simp; omega))) | (refine sLe.drop 1 ?_ ?_ ?_ <;> (first | (simp; done) | (simp; omega)))))
      | false => as_aux_lemma =>
        have ha : addK q L' y = L' ++ [(y, q)] := if_neg (by rw [hk]; decide)
        have hnL : wyN (j + 1) (L' ++ [(y, q)]) = wyN (j + 1) L' + 1 := wyN_add hiL' _
        have hqL : wyQ (j + 1) (L' ++ [(y, q)]) = wyQ (j + 1) L' ++ [[.int .i64 y.x, .int .i64 y.v, .int .i64 y.h]] := wyQ_add hiL' _
        have hmp : mput (esL L') (y.x, y.v, y.h) [q.x, q.v, q.h] = esL (L' ++ [(y, q)]) := mput_esL hk
        have hb24 : (wyN (j + 1) L' + 1) * 24 ≤ 140737488355328 := by have := wyN_le (j + 1) L'; omega
        rw [hk] at hml
        simp -dsimp [Tryz.f78, E78, setT, wyC, poA, Po.row, gn]
        repeat' (first | omega | (simp -dsimp [E78, ri, cellp, ints, hkt, hys, v1, v2, v3, v4, v5, v6, hdp, wyM, Mp.get, hml, hg, hmp, mp_set, hb24, wyQ_len, Po.row, gn]) | (refine Also.intro ?_ fun _ => ?_) | (refine Hold.intro fun _ => ?_) | (refine And.intro ?_ ?_))
        exact (by (try simp -dsimp only [hpush_noH, hpush_hps, hps_over]); refine hle_key [7812, 7814, 7813, 7816, 7817, 7819, 7829] ?_ (by rfl) (by rfl); simp -dsimp [allK, sle_rfl, sle_up, ha, hnL, hqL, wyC, wyM, Po.row, gn]; repeat' (first | (refine And.intro ?_ ?_) | (refine sLe.same ?_ ?_ <;> (simp; done)) | (refine sLe.clear ?_ ?_ <;> (first | (simp; done) | (simp; omega))) | (refine sLe.drop 1 ?_ ?_ ?_ <;> (first | (simp; done) | (simp; omega)))))
    · as_aux_lemma =>
      intro _
      rw [hr2]
      have hq1 : (expK q L (stL s q 1))[(j + 1)]? = some (q, q') := by rw [hr, List.getElem?_append_left hiE]; exact hq
      have hi1 : (j + 1) + 1 ≤ (expK q L (stL s q 1)).length := (List.getElem?_eq_some_iff.1 hq1).1
      have ht1 : wyF s E (3732 - ((j + 1) + 1)) (expK q L (stL s q 1)) ((j + 1) + 1) = wyL s E p := by
        rw [← ht, show 3732 - (j + 1) = 3732 - ((j + 1) + 1) + 1 by omega, wy_miss hq he]
      have hQ1 := wyQ_head hq1
      have hN1 := wyN_head hq1
      simp only at hQ1
      generalize expK q L (stL s q 1) = L1 at *
      have hto : ((wyN ((j + 1) + 1) L1 : Int) + 1).toNat = wyN ((j + 1) + 1) L1 + 1 := by omega
      have htk : (wyQ ((j + 1) + 1) L1).take (wyN ((j + 1) + 1) L1) = wyQ ((j + 1) + 1) L1 := List.take_of_length_le (by rw [wyQ_len]; omega)
      simp -dsimp [wyC, gn]
      repeat' (first | omega | (simp -dsimp [E78, ri, cellp, ints, hQ1, hN1, hto, htk, nlt1, nsub1, nmax1, wyQ_len, gn]) | (refine Also.intro ?_ fun _ => ?_) | (refine Hold.intro fun _ => ?_) | (refine And.intro ?_ ?_))
      refine ⟨{ L := L1, i := (j + 1) + 1, c := c + (stL s q 1).length, hs := hS1, hi := hi1, hc := c_step hcc hl39, d := d + 1000000, hd := d_step hd, ht := ht1 }, ?_, ?_, by simp only; omega⟩
      · simp [okAll, okv, wyT, ← Nat.add_assoc]
      · exact (by (try simp -dsimp only [hpush_noH, hpush_hps, hps_over]); refine hle_key wyKeys ?_ (by rfl) (by rfl); simp -dsimp [allK, sle_rfl, sle_up, wyKeys, wyG, wyS0, wyV, wyQ_len, gn, knS1, knS2, knM, ← Nat.add_assoc]; repeat' (first | (refine And.intro ?_ ?_) | (refine sLe.same ?_ ?_ <;> (simp; done)) | (refine sLe.clear ?_ ?_ <;> (first | (simp; done) | (simp; omega))) | (refine sLe.drop 1 ?_ ?_ ?_ <;> (first | (simp; done) | (simp; omega)))))
    · intro h
      rw [hr2] at h
      cases h
theorem ok78 : FnOK Tryz.prog 78 (.heap wayS) := heap_fn (E := E78) rfl (.cons ok79 (.cons ok81 (.cons ok76 (.cons ok112 (.cons ok114 .nil))))) (ok := []) (fn := Tryz.f78) (by kernel_rfl) (by kernel_rfl) (by kernel_rfl) (by kernel_rfl) rfl (fun args h hc => by obtain ⟨d, rfl, _⟩ := mkH_inv hc; simp [wyE]) b78
end Go.Sx.Rot
