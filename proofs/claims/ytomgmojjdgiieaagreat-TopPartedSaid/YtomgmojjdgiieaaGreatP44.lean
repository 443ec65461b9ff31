/- Engine: a departure is cleared. No conditions. -/
import Derived.Test.YtomgmojjdgiieaaGreatP42
import Derived.Test.YtomgmojjdgiieaaGreatP43
set_option linter.unusedSimpArgs false
set_option linter.unusedVariables false
set_option linter.unusedSectionVars false
set_option linter.unusedSimpArgs false
set_option linter.unusedSectionVars false
set_option maxRecDepth 100000
set_option maxHeartbeats 16000000
namespace Go.Sx.Rot
open Go.Proofs Go.Sx Go.Sx.Tab
attribute [local irreducible] HLe TB
attribute [local simp] hps_app mpEl_before mpEl_known zMp_po zMp_int cz142 tk142 ag142 by142 zz142
theorem wayU (s : St) (p : Po) (es : List Ent) (ms : List Mp) (H : Hp) (_ : H 4403 = { base := 0, blks := [{ z := 1, els := [[.bmp 4404 0]], ty := 142, cl := false }] }) (_ : H 4404 = { base := 0, blks := [], mps := [{ sc := true, d := [0], es := es }] }) (_ : H 7819 = { base := (H 7819).base, blks := [], mps := ms }) (_ : (H 999999999).blks = []) (_ : (H 999999999).fl = false) (_ : H 7805 = { base := (H 7805).base, blks := [] }) (_ : H 7806 = { base := (H 7806).base, blks := [] }) (_ : H 7809 = { base := (H 7809).base, blks := [] }) (_ : H 7812 = { base := (H 7812).base, blks := [] }) (_ : H 7813 = { base := (H 7813).base, blks := [] }) (_ : H 7814 = { base := (H 7814).base, blks := [] }) (_ : H 7816 = { base := (H 7816).base, blks := [] }) (_ : H 7817 = { base := (H 7817).base, blks := [] }) (_ : H 7824 = { base := (H 7824).base, blks := [] }) (_ : H 7829 = { base := (H 7829).base, blks := [] }) (_ : H 7845 = { base := (H 7845).base, blks := [] }) (_ : H 7903 = { base := (H 7903).base, blks := [] }) (_ : H 11207 = { base := (H 11207).base, blks := [] }) :
    wayS.go [.agg [.ip 36 [s.x.row] 0 0, .int .i64 s.f.len, .int .i64 s.f.clr, .int .i64 s.f.safe, .sl 2 (s.f.hs.map Hi.row)], .agg [.int .i64 p.x, .int .i64 p.v, .int .i64 p.h], .int .i64 1, .fn 79 [.ip 5 [[.ip 36 [s.x.row] 0 0, .int .i64 s.f.len, .int .i64 s.f.clr, .int .i64 s.f.safe, .sl 2 (s.f.hs.map Hi.row)]] 0 0, .bptr 4403 0 1 0 0], .fn 81 []] H = ⟨SpoP (s, p), .tup [.top, .bool (fndB s (endB s es) p)], hps [(7819, { base := (H 7819).base, blks := [], mps := ms ++ [wyMs s es p] }), (7805, gn ((H 7805).base + TB)), (7806, gn ((H 7806).base + TB)), (7809, gn ((H 7809).base + TB)), (7812, gn ((H 7812).base + TB)), (7813, gn ((H 7813).base + TB)), (7814, gn ((H 7814).base + TB)), (7816, gn ((H 7816).base + TB)), (7817, gn ((H 7817).base + TB)), (7824, gn ((H 7824).base + TB)), (7829, gn ((H 7829).base + TB)), (7845, gn ((H 7845).base + TB)), (7903, gn ((H 7903).base + TB)), (11207, gn ((H 11207).base + TB))] H⟩ := by
  refine way_go s p (es := es) (ms := ms) (h := H) ⟨⟨?_, ?_⟩, ?_, ?_, ?_⟩
  · assumption
  · assumption
  · intro k hk
    simp only [wyOwn, List.mem_cons, List.not_mem_nil, or_false] at hk
    rcases hk with rfl | rfl | rfl | rfl | rfl | rfl | rfl | rfl | rfl | rfl | rfl | rfl | rfl <;> assumption
  · assumption
  · exact ⟨by assumption, by assumption⟩
structure CkD where
  s : St
  p : Po
  es : List Ent
  ms : List Mp
def kOwn : List Nat := [7703, 7805, 7806, 7809, 7812, 7813, 7814, 7816, 7817, 7824, 7829, 7845, 7903, 11207]
def ckKeys : List Nat := 7703 :: wyKeys
structure KH (es : List Ent) (ms : List Mp) (h : Hp) : Prop where
  k : knP es h
  o : ∀ k ∈ kOwn, Cln h k
  m : h 7819 = { base := (h 7819).base, blks := [], mps := ms }
  y : (h YS).blks = [] ∧ (h YS).fl = false
def kPost (n : Nat) (es : List Ent) (ms : List Mp) (h : Hp) : Hp := hps ((4404, knS2 es) :: (7819, { base := (h 7819).base, blks := [], mps := ms }) :: kOwn.map fun k => (k, gn ((h k).base + n))) h
theorem KH.eq {es es' : List Ent} {ms ms' : List Mp} {h : Hp} (h1 : KH es ms h) (h2 : KH es' ms' h) : es = es' ∧ ms = ms' := by
  have e3 := knP_es h1.k h2.k
  have e4 := h1.m.symm.trans h2.m
  simp only [Site.mk.injEq, true_and, and_true] at e4
  exact ⟨e3, e4⟩
def cqE (d : CkD) : List V := [.agg d.p.row, knV, .ip 5 [d.s.row] 0 0]
structure CkP (d : CkD) : Prop where
  s : StP d.s
  p : PoP d.s d.p
  m : Mem d.s d.es
noncomputable def ckM (s : St) (es : List Ent) (p : Po) : List Mp := if kv es p = 0 then [wyMs s (es1 es p) p] else []
noncomputable abbrev ckcS : HSpec := mkH cqE (fun d h => KH d.es d.ms h) CkP (fun d => .bool (covB d.s d.p)) (fun d h => kPost TB (es2 d.s d.es d.p) (d.ms ++ ckM d.s d.es d.p) h)
theorem ck_inj (d d' : CkD) (h : Hp) (e : cqE d = cqE d') (h1 : KH d.es d.ms h) (h2 : KH d'.es d'.ms h) : d = d' := by
  obtain ⟨a1, a2, a3, a4⟩ := d; obtain ⟨b1, b2, b3, b4⟩ := d'
  simp only [cqE, List.cons.injEq, V.agg.injEq, V.ip.injEq, true_and, and_true] at e
  obtain ⟨e3, e4⟩ := h1.eq h2
  simp only at e3 e4
  rw [Po.row_inj _ _ e.1, St.row_inj _ _ e.2, e3, e4]
theorem ckU (s : St) (p : Po) (es : List Ent) (ms : List Mp) (H : Hp) (_ : H 4403 = { base := 0, blks := [{ z := 1, els := [[.bmp 4404 0]], ty := 142, cl := false }] }) (_ : H 4404 = { base := 0, blks := [], mps := [{ sc := true, d := [0], es := es }] }) (_ : H 7819 = { base := (H 7819).base, blks := [], mps := ms }) (_ : (H 999999999).blks = []) (_ : (H 999999999).fl = false) (_ : H 7703 = { base := (H 7703).base, blks := [] }) (_ : H 7805 = { base := (H 7805).base, blks := [] }) (_ : H 7806 = { base := (H 7806).base, blks := [] }) (_ : H 7809 = { base := (H 7809).base, blks := [] }) (_ : H 7812 = { base := (H 7812).base, blks := [] }) (_ : H 7813 = { base := (H 7813).base, blks := [] }) (_ : H 7814 = { base := (H 7814).base, blks := [] }) (_ : H 7816 = { base := (H 7816).base, blks := [] }) (_ : H 7817 = { base := (H 7817).base, blks := [] }) (_ : H 7824 = { base := (H 7824).base, blks := [] }) (_ : H 7829 = { base := (H 7829).base, blks := [] }) (_ : H 7845 = { base := (H 7845).base, blks := [] }) (_ : H 7903 = { base := (H 7903).base, blks := [] }) (_ : H 11207 = { base := (H 11207).base, blks := [] }) :
    ckcS.go [.agg [.int .i64 p.x, .int .i64 p.v, .int .i64 p.h], .bptr 4403 0 1 0 0, .ip 5 [[.ip 36 [s.x.row] 0 0, .int .i64 s.f.len, .int .i64 s.f.clr, .int .i64 s.f.safe, .sl 2 (s.f.hs.map Hi.row)]] 0 0] H = ⟨CkP ⟨s, p, es, ms⟩, .bool (covB s p), hps [(4404, { base := 0, blks := [], mps := [{ sc := true, d := [0], es := es2 s es p }] }), (7819, { base := (H 7819).base, blks := [], mps := ms ++ ckM s es p }), (7703, gn ((H 7703).base + TB)), (7805, gn ((H 7805).base + TB)), (7806, gn ((H 7806).base + TB)), (7809, gn ((H 7809).base + TB)), (7812, gn ((H 7812).base + TB)), (7813, gn ((H 7813).base + TB)), (7814, gn ((H 7814).base + TB)), (7816, gn ((H 7816).base + TB)), (7817, gn ((H 7817).base + TB)), (7824, gn ((H 7824).base + TB)), (7829, gn ((H 7829).base + TB)), (7845, gn ((H 7845).base + TB)), (7903, gn ((H 7903).base + TB)), (11207, gn ((H 11207).base + TB))] H⟩ := by
  refine mkH_at ck_inj (d := ⟨s, p, es, ms⟩) (h := H) ⟨⟨?_, ?_⟩, ?_, ?_, ?_⟩
  · assumption
  · assumption
  · intro k hk
    simp only [kOwn, List.mem_cons, List.not_mem_nil, or_false] at hk
    rcases hk with rfl | rfl | rfl | rfl | rfl | rfl | rfl | rfl | rfl | rfl | rfl | rfl | rfl | rfl <;> assumption
  · assumption
  · exact ⟨by assumption, by assumption⟩
theorem fnd_cov {s : St} {es : List Ent} {p : Po} (h : Mem s es) : fndB s (endB s (es1 es p)) p = covB s p := by
  unfold fndB covB
  exact decide_eq_decide.2 (found_iff h)
theorem kv1 (es : List Ent) (p : Po) : ((mlook (es1 es p) (p.x, p.v, p.h)).getD [0]).head?.getD 0 = 1 := by
  have h := mlook_mput (pk p) (pk p) [1] es
  rw [if_pos rfl] at h
  show ((mlook (mput es (pk p) [1]) (pk p)).getD [0]).head?.getD 0 = 1
  rw [h]; rfl
theorem kv2 (es : List Ent) (p : Po) : ((mlook (mput (es1 es p) (p.x, p.v, p.h) [2]) (p.x, p.v, p.h)).getD [0]).head?.getD 0 = 2 := by
  have h := mlook_mput (pk p) (pk p) [2] (es1 es p)
  rw [if_pos rfl] at h
  show ((mlook (mput (es1 es p) (pk p) [2]) (pk p)).getD [0]).head?.getD 0 = 2
  rw [h]; rfl
noncomputable abbrev E77 : Env := { P := Tryz.prog, fn := tbl [(78, .heap wayS)], own := [], key := 7700, nt := 27, frz := [(1, [3, 50003])] }
theorem b77 : HeapBody E77 [] Tryz.f77 ckcS := by
  intro args h hc
  obtain ⟨⟨s, p, es, ms⟩, rfl, ⟨⟨hB1, hB2⟩, hO, hM, hY⟩, ⟨hs, hp, hmem⟩, hgo⟩ := mkH_inv hc
  rw [hgo]; clear hgo hc
  simp only at hB1 hB2 hO hM hs hp hmem
  obtain ⟨b, hb⟩ : ∃ b : Nat → Nat, b = fun k => (h k).base := ⟨_, rfl⟩
  have hbk : ∀ k, (h k).base = b k := fun k => by rw [hb]
  have hO : ∀ k ∈ kOwn, h k = gn (b k) := fun k hk => by rw [← hbk]; exact hO k hk
  rw [hbk] at hM
  have hCv : True := trivial
  have hself : hps [(7703, gn (b 7703)), (7805, gn (b 7805)), (7806, gn (b 7806)), (7809, gn (b 7809)), (7812, gn (b 7812)), (7813, gn (b 7813)), (7814, gn (b 7814)), (7816, gn (b 7816)), (7817, gn (b 7817)), (7824, gn (b 7824)), (7829, gn (b 7829)), (7845, gn (b 7845)), (7903, gn (b 7903)), (11207, gn (b 11207)), (7819, { base := b 7819, blks := [], mps := ms }), (4403, knS1), (4404, knS2 es)] h = h := hps_self (by
    intro k hk
    simp at hk
    rcases hk with rfl | rfl | rfl | rfl | rfl | rfl | rfl | rfl | rfl | rfl | rfl | rfl | rfl | rfl | rfl | rfl | rfl
    all_goals first | (rw [hO _ (by decide)]; rfl) | (rw [hM]; rfl) | (rw [hB1]; rfl) | (rw [hB2]; rfl))
  have hpost : kPost TB (es2 s es p) (ms ++ ckM s es p) h = hps [(4404, knS2 (es2 s es p)), (7819, { base := b 7819, blks := [], mps := ms ++ ckM s es p }), (7703, gn (b 7703 + TB)), (7805, gn (b 7805 + TB)), (7806, gn (b 7806 + TB)), (7809, gn (b 7809 + TB)), (7812, gn (b 7812 + TB)), (7813, gn (b 7813 + TB)), (7814, gn (b 7814 + TB)), (7816, gn (b 7816 + TB)), (7817, gn (b 7817 + TB)), (7824, gn (b 7824 + TB)), (7829, gn (b 7829 + TB)), (7845, gn (b 7845 + TB)), (7903, gn (b 7903 + TB)), (11207, gn (b 11207 + TB))] h := by
    simp only [kPost, kOwn, List.map_cons, List.map_nil, hbk]
  rw [hpost]
  have hY1 := hY.1
  have hY2 := hY.2
  have hYS : YS = 999999999 := rfl
  rw [hYS] at hY1 hY2
  clear hpost hO hM hB1 hB2 hb hbk hCv hY
  rw [← hself]
  clear hself
  have hcb := crI_b hs.i
  have hkt := kt_po
  have hTB := tb_le
  have hk := kR_of hs hp
  simp only [pk, kR] at hk
  obtain ⟨⟨k1, k2⟩, ⟨k3, k4⟩, k5, k6⟩ := hk
  have hys : (4404 = YS) = False := eq_false (by decide)
  have hsp : SpoP (s, p) := ⟨hs, hp⟩
  have hkv : ((mlook es (p.x, p.v, p.h)).getD [0]).head?.getD 0 = kv es p := by simp [kv, pk]
  have hm1 : mput es (p.x, p.v, p.h) [1] = es1 es p := rfl
  have hu := wayU s p (es1 es p) ms
  rw [fnd_cov hmem] at hu
  have hv1 := kv1 es p
  have hv2 := kv2 es p
  have hM0 : kv es p = 0 → ckM s es p = [wyMs s (es1 es p) p] := fun h0 => if_pos h0
  have hM1 : kv es p ≠ 0 → ckM s es p = [] := fun h0 => if_neg h0
  have hE0 : kv es p ≠ 0 → es2 s es p = es := fun h0 => by simp [es2, h0]
  have hE1 : kv es p = 0 → covB s p = false → es2 s es p = es1 es p := fun h0 hcv => by simp [es2, h0, hcv]
  have hE2 : kv es p = 0 → covB s p = true → es2 s es p = mput (es1 es p) (p.x, p.v, p.h) [2] := fun h0 hcv => by simp [es2, h0, hcv, pk]
  have hcB : Cov s p → covB s p = true := fun h => by simp [covB, h]
  have hcN : ¬ Cov s p → covB s p = false := fun h => by simp [covB, h]
  have hkp := hmem.kv p
  generalize wyMs s (es1 es p) p = W at *
  generalize es1 es p = e1 at *
  generalize es2 s es p = e2 at *
  generalize ckM s es p = cM at *
  generalize covB s p = cB at *
  generalize kv es p = kV at *
  clear hmem
  rcases hkp with ⟨h0, _⟩ | ⟨h0, hcv⟩ | ⟨h0, hcv⟩
  · have hM0 := hM0 h0
    cases cB
    case false => as_aux_lemma =>
      have hE2 := hE1 h0 rfl
      subst hM0 hE2 h0
      simp -dsimp [Tryz.f77, E77, cqE, knV, gn, knS1, knS2, knM, St.row, Po.row]
      repeat' (first | omega | (simp -dsimp [E77, ri, cellp, ints, St.row, Po.row, hkt, hys, k1, k2, k3, k4, k5, k6, hY1, hY2, Mp.get, hkv, hm1, hu, hsp, hv1, gn, knS1, knS2, knM]) | (refine Also.intro ?_ fun _ => ?_) | (refine Hold.intro fun _ => ?_) | (refine And.intro ?_ ?_))
      exact (by (try simp -dsimp only [hpush_noH, hpush_hps, hps_over]); refine hle_key ckKeys ?_ (by rfl) (by rfl); simp -dsimp [allK, sle_rfl, sle_up, ckKeys, wyKeys, gn, knS1, knS2, knM]; repeat' (first | (refine And.intro ?_ ?_) | (refine sLe.same ?_ ?_ <;> (simp; done)) | (refine sLe.clear ?_ ?_ <;> (first | (simp; done) | (simp; omega))) | (refine sLe.drop 1 ?_ ?_ ?_ <;> (first | (simp; done) | (simp; omega)))))
    case true => as_aux_lemma =>
      have hE2 := hE2 h0 rfl
      simp -dsimp [Tryz.f77, E77, cqE, knV, gn, knS1, knS2, knM, St.row, Po.row]
      repeat' (first | omega | (simp -dsimp [E77, ri, cellp, ints, St.row, Po.row, hkt, hys, k1, k2, k3, k4, k5, k6, hY1, hY2, Mp.get, hkv, h0, hm1, hu, hsp, hv2, gn, knS1, knS2, knM]) | (refine Also.intro ?_ fun _ => ?_) | (refine Hold.intro fun _ => ?_) | (refine And.intro ?_ ?_))
      exact (by (try simp -dsimp only [hpush_noH, hpush_hps, hps_over]); refine hle_key ckKeys ?_ (by rfl) (by rfl); simp -dsimp [allK, sle_rfl, sle_up, ckKeys, wyKeys, hM0, hE2, gn, knS1, knS2, knM]; repeat' (first | (refine And.intro ?_ ?_) | (refine sLe.same ?_ ?_ <;> (simp; done)) | (refine sLe.clear ?_ ?_ <;> (first | (simp; done) | (simp; omega))) | (refine sLe.drop 1 ?_ ?_ ?_ <;> (first | (simp; done) | (simp; omega)))))
  · as_aux_lemma =>
    have hM0 := hM1 (by omega)
    have hE2 := hE0 (by omega)
    have hcb := hcB hcv
    subst hM0 hE2 hcb h0
    simp -dsimp [Tryz.f77, E77, cqE, knV, gn, knS1, knS2, knM, St.row, Po.row]
    repeat' (first | omega | (simp -dsimp [E77, ri, cellp, ints, St.row, Po.row, hkt, k1, k2, k3, k4, k5, k6, Mp.get, hkv, gn, knS1, knS2, knM]) | (refine Also.intro ?_ fun _ => ?_) | (refine Hold.intro fun _ => ?_) | (refine And.intro ?_ ?_))
    exact (by (try simp -dsimp only [hpush_noH, hpush_hps, hps_over]); refine hle_key ckKeys ?_ (by rfl) (by rfl); simp -dsimp [allK, sle_rfl, sle_up, ckKeys, wyKeys, gn, knS1, knS2, knM]; repeat' (first | (refine And.intro ?_ ?_) | (refine sLe.same ?_ ?_ <;> (simp; done)) | (refine sLe.clear ?_ ?_ <;> (first | (simp; done) | (simp; omega))) | (refine sLe.drop 1 ?_ ?_ ?_ <;> (first | (simp; done) | (simp; omega)))))
  · as_aux_lemma =>
    have hM0 := hM1 (by omega)
    have hE2 := hE0 (by omega)
    have hcb := hcN hcv
    subst hM0 hE2 hcb h0
    simp -dsimp [Tryz.f77, E77, cqE, knV, gn, knS1, knS2, knM, St.row, Po.row]
    repeat' (first | omega | (simp -dsimp [E77, ri, cellp, ints, St.row, Po.row, hkt, k1, k2, k3, k4, k5, k6, Mp.get, hkv, gn, knS1, knS2, knM]) | (refine Also.intro ?_ fun _ => ?_) | (refine Hold.intro fun _ => ?_) | (refine And.intro ?_ ?_))
    exact (by (try simp -dsimp only [hpush_noH, hpush_hps, hps_over]); refine hle_key ckKeys ?_ (by rfl) (by rfl); simp -dsimp [allK, sle_rfl, sle_up, ckKeys, wyKeys, gn, knS1, knS2, knM]; repeat' (first | (refine And.intro ?_ ?_) | (refine sLe.same ?_ ?_ <;> (simp; done)) | (refine sLe.clear ?_ ?_ <;> (first | (simp; done) | (simp; omega))) | (refine sLe.drop 1 ?_ ?_ ?_ <;> (first | (simp; done) | (simp; omega)))))
theorem ok77 : FnOK Tryz.prog 77 (.heap ckcS) := heap_fn (E := E77) rfl (.cons ok78 .nil) (ok := []) (fn := Tryz.f77) (by kernel_rfl) (by kernel_rfl) (by kernel_rfl) (by kernel_rfl) rfl (fun args h hc => by obtain ⟨d, rfl, _⟩ := mkH_inv hc; simp [cqE]) b77
end Go.Sx.Rot
