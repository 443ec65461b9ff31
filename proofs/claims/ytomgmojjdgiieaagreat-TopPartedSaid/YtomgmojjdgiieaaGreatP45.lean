/- Engine: Cleared. No conditions. -/
import Derived.Test.YtomgmojjdgiieaaGreatP44
set_option linter.unusedSimpArgs false
set_option linter.unusedVariables false
set_option linter.unusedSectionVars false
set_option linter.unusedSimpArgs false
set_option linter.unusedSectionVars false
set_option maxRecDepth 100000
set_option maxHeartbeats 16000000
namespace Go.Sx.Rot
open Go.Proofs Go.Sx Go.Sx.Tab
attribute [local irreducible] HLe TB
attribute [local simp] hps_app mpEl_before mpEl_known zMp_po zMp_int cz142 tk142 ag142 by142 zz142
def cvC (s : St) : Site := { base := 0, blks := [{ z := 1, els := [[covV s]], ty := 113, cl := false }] }
theorem cvC_inj {s s' : St} (h : cvC s = cvC s') : s = s' := by
  simp only [cvC, covV, Site.mk.injEq, List.cons.injEq, Blk.mk.injEq, V.fn.injEq, V.ip.injEq, true_and, and_true] at h
  exact St.row_inj _ _ h
def cxKeys : List Nat := 4702 :: 2306 :: ckKeys
structure C1H (s : St) (es : List Ent) (ms : List Mp) (h : Hp) : Prop where
  k : KH es ms h
  c : h 2306 = cvC s
  b : Cln h 4702
def c1E (d : CkD) : List V := [.agg d.p.row, .bptr 2306 0 1 0 0]
def c1Post (m n : Nat) (es : List Ent) (ms : List Mp) (h : Hp) : Hp := hps ((4404, knS2 es) :: (7819, { base := (h 7819).base, blks := [], mps := ms }) :: (4702, gn ((h 4702).base + m)) :: kOwn.map fun k => (k, gn ((h k).base + n))) h
noncomputable abbrev c1S : HSpec := mkH c1E (fun d h => C1H d.s d.es d.ms h) CkP (fun d => .bool (!covB d.s d.p)) (fun d h => c1Post 1 TB (es2 d.s d.es d.p) (d.ms ++ ckM d.s d.es d.p) h)
theorem c1_inj (d d' : CkD) (h : Hp) (e : c1E d = c1E d') (h1 : C1H d.s d.es d.ms h) (h2 : C1H d'.s d'.es d'.ms h) : d = d' := by
  obtain ⟨a1, a2, a3, a4⟩ := d; obtain ⟨b1, b2, b3, b4⟩ := d'
  simp only [c1E, List.cons.injEq, V.agg.injEq, and_true] at e
  obtain ⟨e3, e4⟩ := h1.k.eq h2.k
  have e5 := cvC_inj (h1.c.symm.trans h2.c)
  simp only at e3 e4 e5
  rw [Po.row_inj _ _ e, e3, e4, e5]
theorem c1U (s : St) (p : Po) (es : List Ent) (ms : List Mp) (H : Hp) (_ : H 4403 = { base := 0, blks := [{ z := 1, els := [[.bmp 4404 0]], ty := 142, cl := false }] }) (_ : H 4404 = { base := 0, blks := [], mps := [{ sc := true, d := [0], es := es }] }) (_ : H 7819 = { base := (H 7819).base, blks := [], mps := ms }) (_ : (H 999999999).blks = []) (_ : (H 999999999).fl = false) (_ : H 7703 = { base := (H 7703).base, blks := [] }) (_ : H 7805 = { base := (H 7805).base, blks := [] }) (_ : H 7806 = { base := (H 7806).base, blks := [] }) (_ : H 7809 = { base := (H 7809).base, blks := [] }) (_ : H 7812 = { base := (H 7812).base, blks := [] }) (_ : H 7813 = { base := (H 7813).base, blks := [] }) (_ : H 7814 = { base := (H 7814).base, blks := [] }) (_ : H 7816 = { base := (H 7816).base, blks := [] }) (_ : H 7817 = { base := (H 7817).base, blks := [] }) (_ : H 7824 = { base := (H 7824).base, blks := [] }) (_ : H 7829 = { base := (H 7829).base, blks := [] }) (_ : H 7845 = { base := (H 7845).base, blks := [] }) (_ : H 7903 = { base := (H 7903).base, blks := [] }) (_ : H 11207 = { base := (H 11207).base, blks := [] }) (_ : H 4702 = { base := (H 4702).base, blks := [] }) (_ : H 2306 = { base := 0, blks := [{ z := 1, els := [[.fn 77 [.bptr 4403 0 1 0 0, .ip 5 [[.ip 36 [s.x.row] 0 0, .int .i64 s.f.len, .int .i64 s.f.clr, .int .i64 s.f.safe, .sl 2 (s.f.hs.map Hi.row)]] 0 0]]], ty := 113, cl := false }] }) :
    c1S.go [.agg [.int .i64 p.x, .int .i64 p.v, .int .i64 p.h], .bptr 2306 0 1 0 0] H = ⟨CkP ⟨s, p, es, ms⟩, .bool (!covB s p), hps [(4404, { base := 0, blks := [], mps := [{ sc := true, d := [0], es := es2 s es p }] }), (7819, { base := (H 7819).base, blks := [], mps := ms ++ ckM s es p }), (4702, gn ((H 4702).base + 1)), (7703, gn ((H 7703).base + TB)), (7805, gn ((H 7805).base + TB)), (7806, gn ((H 7806).base + TB)), (7809, gn ((H 7809).base + TB)), (7812, gn ((H 7812).base + TB)), (7813, gn ((H 7813).base + TB)), (7814, gn ((H 7814).base + TB)), (7816, gn ((H 7816).base + TB)), (7817, gn ((H 7817).base + TB)), (7824, gn ((H 7824).base + TB)), (7829, gn ((H 7829).base + TB)), (7845, gn ((H 7845).base + TB)), (7903, gn ((H 7903).base + TB)), (11207, gn ((H 11207).base + TB))] H⟩ := by
  refine mkH_at c1_inj (d := ⟨s, p, es, ms⟩) (h := H) ⟨⟨⟨?_, ?_⟩, ?_, ?_, ?_⟩, ?_, ?_⟩
  · assumption
  · assumption
  · intro k hk
    simp only [kOwn, List.mem_cons, List.not_mem_nil, or_false] at hk
    rcases hk with rfl | rfl | rfl | rfl | rfl | rfl | rfl | rfl | rfl | rfl | rfl | rfl | rfl | rfl <;> assumption
  · assumption
  · exact ⟨by assumption, by assumption⟩
  · assumption
  · assumption
noncomputable abbrev E47 : Env := { P := Tryz.prog, fn := tbl [(77, .heap ckcS)], own := [], key := 4700, nt := 8, frz := [(1, [2, 50002])] }
theorem b47 : HeapBody E47 [] Tryz.f47 c1S := by
  intro args h hc
  obtain ⟨⟨s, p, es, ms⟩, rfl, ⟨⟨⟨hB1, hB2⟩, hO, hM, hY⟩, hCv, h47⟩, hP, hgo⟩ := mkH_inv hc
  rw [hgo]; clear hgo hc
  simp only at hB1 hB2 hO hM hCv h47
  obtain ⟨b, hb⟩ : ∃ b : Nat → Nat, b = fun k => (h k).base := ⟨_, rfl⟩
  have hbk : ∀ k, (h k).base = b k := fun k => by rw [hb]
  have hO : ∀ k ∈ kOwn, h k = gn (b k) := fun k hk => by rw [← hbk]; exact hO k hk
  have h47 : h 4702 = gn (b 4702) := by rw [← hbk]; exact h47
  rw [hbk] at hM
  have hself : hps [(7703, gn (b 7703)), (7805, gn (b 7805)), (7806, gn (b 7806)), (7809, gn (b 7809)), (7812, gn (b 7812)), (7813, gn (b 7813)), (7814, gn (b 7814)), (7816, gn (b 7816)), (7817, gn (b 7817)), (7824, gn (b 7824)), (7829, gn (b 7829)), (7845, gn (b 7845)), (7903, gn (b 7903)), (11207, gn (b 11207)), (4702, gn (b 4702)), (7819, { base := b 7819, blks := [], mps := ms }), (4403, knS1), (4404, knS2 es), (2306, cvC s)] h = h := hps_self (by
    intro k hk
    simp at hk
    rcases hk with rfl | rfl | rfl | rfl | rfl | rfl | rfl | rfl | rfl | rfl | rfl | rfl | rfl | rfl | rfl | rfl | rfl | rfl | rfl
    all_goals first | (rw [hO _ (by decide)]; rfl) | (rw [hM]; rfl) | (rw [hB1]; rfl) | (rw [hB2]; rfl) | (rw [hCv]; rfl) | (rw [h47]; rfl))
  have hpost : c1Post 1 TB (es2 s es p) (ms ++ ckM s es p) h = hps [(4404, knS2 (es2 s es p)), (7819, { base := b 7819, blks := [], mps := ms ++ ckM s es p }), (4702, gn (b 4702 + 1)), (7703, gn (b 7703 + TB)), (7805, gn (b 7805 + TB)), (7806, gn (b 7806 + TB)), (7809, gn (b 7809 + TB)), (7812, gn (b 7812 + TB)), (7813, gn (b 7813 + TB)), (7814, gn (b 7814 + TB)), (7816, gn (b 7816 + TB)), (7817, gn (b 7817 + TB)), (7824, gn (b 7824 + TB)), (7829, gn (b 7829 + TB)), (7845, gn (b 7845 + TB)), (7903, gn (b 7903 + TB)), (11207, gn (b 11207 + TB))] h := by
    simp only [c1Post, kOwn, List.map_cons, List.map_nil, hbk]
  rw [hpost]
  have hY1 := hY.1
  have hY2 := hY.2
  have hYS : YS = 999999999 := rfl
  rw [hYS] at hY1 hY2
  clear hpost hO hM hB1 hB2 hb hbk hCv h47 hY
  rw [← hself]
  clear hself
  have hu := ckU s p es ms
  have hTB := tb_le
  generalize ckM s es p = cM at *
  generalize es2 s es p = e2 at *
  generalize covB s p = cB at *
  simp -dsimp [Tryz.f47, E47, c1E, cvC, covV, knV, gn, knS1, knS2, knM, St.row, Po.row]
  repeat' (first | omega | (simp -dsimp [E47, ri, cellp, ints, St.row, Po.row, hY1, hY2, hu, hP, cvC, covV, knV, gn, knS1, knS2, knM]) | (refine Also.intro ?_ fun _ => ?_) | (refine Hold.intro fun _ => ?_) | (refine And.intro ?_ ?_))
  exact (by (try simp -dsimp only [hpush_noH, hpush_hps, hps_over]); refine hle_key cxKeys ?_ (by rfl) (by rfl); simp -dsimp [allK, sle_rfl, sle_up, cxKeys, wyKeys, ckKeys, cvC, covV, knV, St.row, gn, knS1, knS2, knM]; repeat' (first | (refine And.intro ?_ ?_) | (refine sLe.same ?_ ?_ <;> (simp; done)) | (refine sLe.clear ?_ ?_ <;> (first | (simp; done) | (simp; omega))) | (refine sLe.drop 1 ?_ ?_ ?_ <;> (first | (simp; done) | (simp; omega)))))
theorem ok47 : FnOK Tryz.prog 47 (.heap c1S) := heap_fn (E := E47) rfl (.cons ok77 .nil) (ok := []) (fn := Tryz.f47) (by kernel_rfl) (by kernel_rfl) (by kernel_rfl) (by kernel_rfl) rfl (fun args h hc => by obtain ⟨d, rfl, _⟩ := mkH_inv hc; simp [c1E]) b47
noncomputable def esF (s : St) : List Ent → List Po → List Ent
  | es, [] => es
  | es, p :: l => if covB s p = true then esF s (es2 s es p) l else es2 s es p
noncomputable def msF (s : St) : List Ent → List Mp → List Po → List Mp
  | _, ms, [] => ms
  | es, ms, p :: l => if covB s p = true then msF s (es2 s es p) (ms ++ ckM s es p) l else ms ++ ckM s es p
def lfT : Nat → Nat
  | 0 => 0
  | k + 1 => lfT k + TB
theorem lfT_0 : lfT 0 = 0 := rfl
theorem lfT_s (k : Nat) : lfT (k + 1) = lfT k + TB := rfl
theorem lfT_le {n : Nat} : ∀ {m : Nat}, n ≤ m → lfT n ≤ lfT m
  | 0, h => by rw [show n = 0 by omega]; exact Nat.le_refl _
  | m + 1, h => by
    by_cases e : n = m + 1
    · subst e; exact Nat.le_refl _
    · have := lfT_le (n := n) (m := m) (by omega)
      rw [lfT_s]; omega
structure IxD where
  s : St
  l : List Po
  es : List Ent
  ms : List Mp
def ixE (d : IxD) : List V := [.sl 3 (d.l.map Po.row), .fn 47 [.bptr 2306 0 1 0 0]]
structure IxP (d : IxD) : Prop where
  s : StP d.s
  p : ∀ p ∈ d.l, PoP d.s p
  m : Mem d.s d.es
  n : d.l.length ≤ 1000000
noncomputable def unc (s : St) (p : Po) : Bool := !covB s p
noncomputable abbrev ixcS : HSpec := mkH ixE (fun d h => C1H d.s d.es d.ms h) IxP (fun d => .int .i64 (idxZ d.l (unc d.s))) (fun d h => c1Post d.l.length (lfT d.l.length) (esF d.s d.es d.l) (msF d.s d.es d.ms d.l) h)
theorem ix_inj (d d' : IxD) (h : Hp) (e : ixE d = ixE d') (h1 : C1H d.s d.es d.ms h) (h2 : C1H d'.s d'.es d'.ms h) : d = d' := by
  obtain ⟨a1, a2, a3, a4⟩ := d; obtain ⟨b1, b2, b3, b4⟩ := d'
  simp only [ixE, List.cons.injEq, V.sl.injEq, true_and, and_true] at e
  obtain ⟨e3, e4⟩ := h1.k.eq h2.k
  have e5 := cvC_inj (h1.c.symm.trans h2.c)
  simp only at e3 e4 e5
  rw [mapRow_inj Po.row_inj e, e3, e4, e5]
theorem ixU (s : St) (l : List Po) (es : List Ent) (ms : List Mp) (H : Hp) (_ : H 4403 = { base := 0, blks := [{ z := 1, els := [[.bmp 4404 0]], ty := 142, cl := false }] }) (_ : H 4404 = { base := 0, blks := [], mps := [{ sc := true, d := [0], es := es }] }) (_ : H 7819 = { base := (H 7819).base, blks := [], mps := ms }) (_ : (H 999999999).blks = []) (_ : (H 999999999).fl = false) (_ : H 7703 = { base := (H 7703).base, blks := [] }) (_ : H 7805 = { base := (H 7805).base, blks := [] }) (_ : H 7806 = { base := (H 7806).base, blks := [] }) (_ : H 7809 = { base := (H 7809).base, blks := [] }) (_ : H 7812 = { base := (H 7812).base, blks := [] }) (_ : H 7813 = { base := (H 7813).base, blks := [] }) (_ : H 7814 = { base := (H 7814).base, blks := [] }) (_ : H 7816 = { base := (H 7816).base, blks := [] }) (_ : H 7817 = { base := (H 7817).base, blks := [] }) (_ : H 7824 = { base := (H 7824).base, blks := [] }) (_ : H 7829 = { base := (H 7829).base, blks := [] }) (_ : H 7845 = { base := (H 7845).base, blks := [] }) (_ : H 7903 = { base := (H 7903).base, blks := [] }) (_ : H 11207 = { base := (H 11207).base, blks := [] }) (_ : H 4702 = { base := (H 4702).base, blks := [] }) (_ : H 2306 = { base := 0, blks := [{ z := 1, els := [[.fn 77 [.bptr 4403 0 1 0 0, .ip 5 [[.ip 36 [s.x.row] 0 0, .int .i64 s.f.len, .int .i64 s.f.clr, .int .i64 s.f.safe, .sl 2 (s.f.hs.map Hi.row)]] 0 0]]], ty := 113, cl := false }] }) :
    ixcS.go [.sl 3 (l.map Po.row), .fn 47 [.bptr 2306 0 1 0 0]] H = ⟨IxP ⟨s, l, es, ms⟩, .int .i64 (idxZ l (unc s)), hps [(4404, { base := 0, blks := [], mps := [{ sc := true, d := [0], es := esF s es l }] }), (7819, { base := (H 7819).base, blks := [], mps := msF s es ms l }), (4702, gn ((H 4702).base + l.length)), (7703, gn ((H 7703).base + lfT l.length)), (7805, gn ((H 7805).base + lfT l.length)), (7806, gn ((H 7806).base + lfT l.length)), (7809, gn ((H 7809).base + lfT l.length)), (7812, gn ((H 7812).base + lfT l.length)), (7813, gn ((H 7813).base + lfT l.length)), (7814, gn ((H 7814).base + lfT l.length)), (7816, gn ((H 7816).base + lfT l.length)), (7817, gn ((H 7817).base + lfT l.length)), (7824, gn ((H 7824).base + lfT l.length)), (7829, gn ((H 7829).base + lfT l.length)), (7845, gn ((H 7845).base + lfT l.length)), (7903, gn ((H 7903).base + lfT l.length)), (11207, gn ((H 11207).base + lfT l.length))] H⟩ := by
  refine mkH_at ix_inj (d := ⟨s, l, es, ms⟩) (h := H) ⟨⟨⟨?_, ?_⟩, ?_, ?_, ?_⟩, ?_, ?_⟩
  · assumption
  · assumption
  · intro k hk
    simp only [kOwn, List.mem_cons, List.not_mem_nil, or_false] at hk
    rcases hk with rfl | rfl | rfl | rfl | rfl | rfl | rfl | rfl | rfl | rfl | rfl | rfl | rfl | rfl <;> assumption
  · assumption
  · exact ⟨by assumption, by assumption⟩
  · assumption
  · assumption
structure IxO (s : St) (l : List Po) (es0 : List Ent) (ms0 : List Mp) where
  k : Nat
  es : List Ent
  ms : List Mp
  hk : k ≤ l.length
  hm : Mem s es
  ha : ∀ j (h : j < l.length), j < k → unc s l[j] = false
  hE : esF s es (l.drop k) = esF s es0 l
  hM : msF s es ms (l.drop k) = msF s es0 ms0 l
def ixT (l : List Po) (k : Nat) : List (Nat × (Bool × V)) := [(8, (true, .int .i64 (k : Nat))), (7, (true, .int .i64 (l.length : Nat))), (1, (true, .fn 47 [.bptr 2306 0 1 0 0])), (0, (true, .sl 3 (l.map Po.row)))]
def ixG (b : Nat → Nat) (s : St) (k : Nat) (es : List Ent) (ms : List Mp) : List (Nat × Site) := [(4404, knS2 es), (7819, { base := b 7819, blks := [], mps := ms }), (4702, gn (b 4702 + k)), (4403, knS1), (2306, cvC s), (7703, gn (b 7703 + lfT k)), (7805, gn (b 7805 + lfT k)), (7806, gn (b 7806 + lfT k)), (7809, gn (b 7809 + lfT k)), (7812, gn (b 7812 + lfT k)), (7813, gn (b 7813 + lfT k)), (7814, gn (b 7814 + lfT k)), (7816, gn (b 7816 + lfT k)), (7817, gn (b 7817 + lfT k)), (7824, gn (b 7824 + lfT k)), (7829, gn (b 7829 + lfT k)), (7845, gn (b 7845 + lfT k)), (7903, gn (b 7903 + lfT k)), (11207, gn (b 11207 + lfT k))]
attribute [local irreducible] lfT
noncomputable abbrev E46 : Env := { P := Tryz.prog, fn := tbl [(47, .heap c1S)], own := [], key := 4600, nt := 19 }
theorem b46 : HeapBody E46 [] Tryz.f46 ixcS := by
  intro args h hc
  obtain ⟨⟨s, l, es, ms⟩, rfl, ⟨⟨⟨hB1, hB2⟩, hO, hM, hY⟩, hCv, h47⟩, ⟨hs, hp, hmem, hn⟩, hgo⟩ := mkH_inv hc
  rw [hgo]; clear hgo hc
  simp only at hs hp hmem hn
  simp only at hB1 hB2 hO hM hCv h47
  obtain ⟨b, hb⟩ : ∃ b : Nat → Nat, b = fun k => (h k).base := ⟨_, rfl⟩
  have hbk : ∀ k, (h k).base = b k := fun k => by rw [hb]
  have hO : ∀ k ∈ kOwn, h k = gn (b k) := fun k hk => by rw [← hbk]; exact hO k hk
  have h47 : h 4702 = gn (b 4702) := by rw [← hbk]; exact h47
  rw [hbk] at hM
  have hself : hps [(7703, gn (b 7703)), (7805, gn (b 7805)), (7806, gn (b 7806)), (7809, gn (b 7809)), (7812, gn (b 7812)), (7813, gn (b 7813)), (7814, gn (b 7814)), (7816, gn (b 7816)), (7817, gn (b 7817)), (7824, gn (b 7824)), (7829, gn (b 7829)), (7845, gn (b 7845)), (7903, gn (b 7903)), (11207, gn (b 11207)), (4702, gn (b 4702)), (7819, { base := b 7819, blks := [], mps := ms }), (4403, knS1), (4404, knS2 es), (2306, cvC s)] h = h := hps_self (by
    intro k hk
    simp at hk
    rcases hk with rfl | rfl | rfl | rfl | rfl | rfl | rfl | rfl | rfl | rfl | rfl | rfl | rfl | rfl | rfl | rfl | rfl | rfl | rfl
    all_goals first | (rw [hO _ (by decide)]; rfl) | (rw [hM]; rfl) | (rw [hB1]; rfl) | (rw [hB2]; rfl) | (rw [hCv]; rfl) | (rw [h47]; rfl))
  have hpost : c1Post l.length (lfT l.length) (esF s es l) (msF s es ms l) h = hps [(4404, knS2 (esF s es l)), (7819, { base := b 7819, blks := [], mps := msF s es ms l }), (4702, gn (b 4702 + l.length)), (7703, gn (b 7703 + lfT l.length)), (7805, gn (b 7805 + lfT l.length)), (7806, gn (b 7806 + lfT l.length)), (7809, gn (b 7809 + lfT l.length)), (7812, gn (b 7812 + lfT l.length)), (7813, gn (b 7813 + lfT l.length)), (7814, gn (b 7814 + lfT l.length)), (7816, gn (b 7816 + lfT l.length)), (7817, gn (b 7817 + lfT l.length)), (7824, gn (b 7824 + lfT l.length)), (7829, gn (b 7829 + lfT l.length)), (7845, gn (b 7845 + lfT l.length)), (7903, gn (b 7903 + lfT l.length)), (11207, gn (b 11207 + lfT l.length))] h := by
    simp only [c1Post, kOwn, List.map_cons, List.map_nil, hbk]
  simp only
  rw [hpost]
  have hY1 := hY.1
  have hY2 := hY.2
  have hYS : YS = 999999999 := rfl
  rw [hYS] at hY1 hY2
  clear hpost hO hM hB1 hB2 hb hbk hCv h47 hY
  rw [← hself]
  clear hself
  have hTB := tb_le
  have hl0 := lfT_0
  simp -dsimp [Tryz.f46, E46, ixE]
  repeat' (first | omega | (simp -dsimp [E46, ri, cellp, ints, *]) | (refine Also.intro ?_ fun _ => ?_) | (refine Hold.intro fun _ => ?_) | (refine And.intro ?_ ?_))
  refine awp_loop_t (fun q : IxO s l es ms => ixT l q.k) (fun q => hps (ixG b s q.k q.es q.ms) h) (fun q => l.length - q.k) { k := 0, es := es, ms := ms, hk := by omega, hm := hmem, ha := fun _ _ h => by omega, hE := rfl, hM := rfl } ?_ ?_ ?_
  · simp [okAll, okv, ixT]
  · exact (by (try simp -dsimp only [hpush_noH, hpush_hps, hps_over]); refine hle_key cxKeys ?_ (by rfl) (by rfl); simp -dsimp [allK, sle_rfl, sle_up, cxKeys, wyKeys, ckKeys, ixG, hl0, cvC, covV, knV, St.row, gn, knS1, knS2, knM]; repeat' (first | (refine And.intro ?_ ?_) | (refine sLe.same ?_ ?_ <;> (simp; done)) | (refine sLe.clear ?_ ?_ <;> (first | (simp; done) | (simp; omega))) | (refine sLe.drop 1 ?_ ?_ ?_ <;> (first | (simp; done) | (simp; omega)))))
  rintro ⟨k, es', ms', hk, hm, ha, hE, hM⟩
  dsimp only
  by_cases hk1 : k < l.length
  case neg => as_aux_lemma =>
    have hkn : ((k : Int) < l.length) = False := eq_false (by omega)
    have hke : k = l.length := by omega
    have hd : l.drop k = [] := List.drop_eq_nil_of_le (by omega)
    rw [hd] at hE hM
    simp only [esF] at hE
    simp only [msF] at hM
    have hz := idxZ_none l (unc s) (fun j h => ha j h (by omega))
    rw [← hE, ← hM, ← hke]
    simp -dsimp [ixT, hkn]
    repeat' (first | omega | (simp -dsimp [E46, ri, cellp, ints, hkn, hz]) | (refine Also.intro ?_ fun _ => ?_) | (refine Hold.intro fun _ => ?_) | (refine And.intro ?_ ?_))
    exact (by (try simp -dsimp only [hpush_noH, hpush_hps, hps_over]); refine hle_key cxKeys ?_ (by rfl) (by rfl); simp -dsimp [allK, sle_rfl, sle_up, cxKeys, wyKeys, ckKeys, ixG, cvC, covV, knV, St.row, gn, knS1, knS2, knM]; repeat' (first | (refine And.intro ?_ ?_) | (refine sLe.same ?_ ?_ <;> (simp; done)) | (refine sLe.clear ?_ ?_ <;> (first | (simp; done) | (simp; omega))) | (refine sLe.drop 1 ?_ ?_ ?_ <;> (first | (simp; done) | (simp; omega)))))
  have hki : ((k : Int) < l.length) = True := eq_true (by omega)
  have wk : IntKind.wrap .i64 ((k : Int) + 1) = (k + 1 : Nat) := wrap_id (by omega) (by omega)
  obtain ⟨q, hq, hq'⟩ := get_ex hk1
  have hdk : l.drop k = q :: l.drop (k + 1) := by rw [List.drop_eq_getElem_cons hk1, hq']
  have hqP := hp q (List.mem_of_getElem? hq)
  have hck : CkP ⟨s, q, es', ms'⟩ := ⟨hs, hqP, hm⟩
  have hu := c1U s q es' ms'
  have hl1 := lfT_s k
  have hl2 : lfT k + TB ≤ lfT l.length := by rw [← hl1]; exact lfT_le (by omega)
  rw [hdk] at hE hM
  simp only [esF] at hE
  simp only [msF] at hM
  cases hcv : covB s q
  case false => as_aux_lemma =>
    rw [hcv] at hE hM hu
    simp only [Bool.false_eq_true, if_false] at hE hM
    have hz := idxZ_at l (unc s) hk1 (by rw [hq']; simp [unc, hcv]) ha
    rw [← hE, ← hM]
    generalize ckM s es' q = cM at *
    generalize es2 s es' q = e2 at *
    simp -dsimp [ixT, ixG, cvC, covV, knV, gn, knS1, knS2, knM, St.row, hki]
    repeat' (first | omega | (simp -dsimp [E46, ri, cellp, ints, hki, hk1, hq, hq', hu, hck, hz, hY1, hY2, Po.row, St.row, gn, knS1, knS2, knM]) | (refine Also.intro ?_ fun _ => ?_) | (refine Hold.intro fun _ => ?_) | (refine And.intro ?_ ?_))
    exact (by (try simp -dsimp only [hpush_noH, hpush_hps, hps_over]); refine hle_key cxKeys ?_ (by rfl) (by rfl); simp -dsimp [allK, sle_rfl, sle_up, cxKeys, wyKeys, ckKeys, ixG, ← Nat.add_assoc, cvC, covV, knV, St.row, gn, knS1, knS2, knM]; repeat' (first | (refine And.intro ?_ ?_) | (refine sLe.same ?_ ?_ <;> (simp; done)) | (refine sLe.clear ?_ ?_ <;> (first | (simp; done) | (simp; omega))) | (refine sLe.drop 1 ?_ ?_ ?_ <;> (first | (simp; done) | (simp; omega)))))
  case true => as_aux_lemma =>
    have hm2 := es2_mem (p := q) hm
    rw [hcv] at hE hM hu
    simp only [if_true] at hE hM
    have ha2 : ∀ j (h : j < l.length), j < k + 1 → unc s l[j] = false := fun j h hj => by
      by_cases e : j = k
      · subst e; rw [hq']; simp [unc, hcv]
      · exact ha j h (by omega)
    generalize ckM s es' q = cM at *
    generalize es2 s es' q = e2 at *
    simp -dsimp [ixT, ixG, cvC, covV, knV, gn, knS1, knS2, knM, St.row, hki]
    repeat' (first | omega | (simp -dsimp [E46, ri, cellp, ints, hki, hk1, hq, hq', hu, hck, wk, hY1, hY2, Po.row, St.row, gn, knS1, knS2, knM]) | (refine Also.intro ?_ fun _ => ?_) | (refine Hold.intro fun _ => ?_) | (refine And.intro ?_ ?_))
    refine ⟨{ k := k + 1, es := e2, ms := ms' ++ cM, hk := by omega, hm := hm2, ha := ha2, hE := hE, hM := hM }, ?_, (by (try simp -dsimp only [hpush_noH, hpush_hps, hps_over]); refine hle_key cxKeys ?_ (by rfl) (by rfl); simp -dsimp [allK, sle_rfl, sle_up, cxKeys, wyKeys, ckKeys, ixG, hl1, ← Nat.add_assoc, cvC, covV, knV, St.row, gn, knS1, knS2, knM]; repeat' (first | (refine And.intro ?_ ?_) | (refine sLe.same ?_ ?_ <;> (simp; done)) | (refine sLe.clear ?_ ?_ <;> (first | (simp; done) | (simp; omega))) | (refine sLe.drop 1 ?_ ?_ ?_ <;> (first | (simp; done) | (simp; omega))))), by simp only; omega⟩
    simp [okAll, okv, ixT, wk]
theorem ok46 : FnOK Tryz.prog 46 (.heap ixcS) := heap_fn (E := E46) rfl (.cons ok47 .nil) (ok := []) (fn := Tryz.f46) (by kernel_rfl) (by kernel_rfl) (by kernel_rfl) (by kernel_rfl) rfl (fun args h hc => by obtain ⟨d, rfl, _⟩ := mkH_inv hc; simp [ixE]) b46
end Go.Sx.Rot
