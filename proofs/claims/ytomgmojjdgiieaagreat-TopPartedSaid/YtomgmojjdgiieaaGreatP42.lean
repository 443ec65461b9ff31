/- A part of a proof; no conditions. -/
import Derived.Test.YtomgmojjdgiieaaGreatP41
set_option linter.unusedSimpArgs false
set_option linter.unusedVariables false
set_option linter.unusedSectionVars false
section
/- Engine: what is known of poses: an end of a search. No conditions. -/
set_option linter.unusedSimpArgs false
set_option linter.unusedSectionVars false
set_option maxRecDepth 100000
set_option maxHeartbeats 8000000
namespace Go.Sx.Rot
open Go.Proofs Go.Sx Go.Sx.Tab
attribute [local irreducible] HLe
attribute [local simp] hps_app mpEl_before mpEl_known zMp_po zMp_int cz142 tk142 ag142 by142
def knM (es : List Ent) : Mp := { sc := true, d := [0], es := es }
def knS1 : Site := { base := 0, blks := [{ z := 1, els := [[.bmp 4404 0]], ty := 142, cl := false }] }
def knS2 (es : List Ent) : Site := { base := 0, blks := [], mps := [knM es] }
def knV : V := .bptr 4403 0 1 0 0
def Cln (h : Hp) (k : Nat) : Prop := h k = { base := (h k).base, blks := [] }
def gn (b : Nat) : Site := { base := b, blks := [] }
def kv (es : List Ent) (p : Po) : Int := ((mlook es (pk p)).getD [0]).headD 0
def endB (s : St) (es : List Ent) (p : Po) : Bool := downB s p || (awayB s p || (kv es p == 2))
structure KnD where
  s : St
  p : Po
  es : List Ent
def knE (d : KnD) : List V := [.agg d.p.row, .ip 5 [d.s.row] 0 0, knV]
def knP (es : List Ent) (h : Hp) : Prop := h 4403 = knS1 ∧ h 4404 = knS2 es
theorem knP_es {es es' : List Ent} {h : Hp} (h1 : knP es h) (h2 : knP es' h) : es = es' := by
  have := h1.2.symm.trans h2.2
  simpa [knS2, knM] using this
noncomputable abbrev knEndS : HSpec := mkH knE (fun d h => knP d.es h ∧ Cln h 7903) (fun d => SpoP (d.s, d.p)) (fun d => .bool (endB d.s d.es d.p)) (fun _ h => hps [(7903, gn ((h 7903).base + 1))] h)
theorem kn_inj (d d' : KnD) (h : Hp) (e : knE d = knE d') (h1 : knP d.es h ∧ Cln h 7903) (h2 : knP d'.es h ∧ Cln h 7903) : d = d' := by
  obtain ⟨a1, a2, a3⟩ := d; obtain ⟨b1, b2, b3⟩ := d'
  simp only [knE, List.cons.injEq, V.agg.injEq, V.ip.injEq, true_and, and_true] at e
  have e3 := knP_es h1.1 h2.1
  simp only at e3
  rw [Po.row_inj _ _ e.1, St.row_inj _ _ e.2, e3]
theorem knEnd_go (s : St) (p : Po) {es : List Ent} {h : Hp} (hk : knP es h) (hn : Cln h 7903) : knEndS.go (knE ⟨s, p, es⟩) h = ⟨SpoP (s, p), .bool (endB s es p), hps [(7903, gn ((h 7903).base + 1))] h⟩ := mkH_at kn_inj (d := ⟨s, p, es⟩) ⟨hk, hn⟩
theorem kR_of {s : St} {p : Po} (hs : StP s) (hp : PoP s p) : kR (pk p) := by
  have hc := crI_b hs.i
  obtain ⟨a1, a2, a3, a4, a5, a6⟩ := hp
  refine ⟨?_, ?_, ?_⟩ <;> simp only [pk] <;> omega
noncomputable abbrev E79 : Env := { P := Tryz.prog, fn := tbl [(80, .pure dowS), (48, .pure awyS)], own := [], key := 7900, nt := 19, frz := [(1, [3, 50003])] }
theorem b79 : HeapBody E79 [] Tryz.f79 knEndS := by
  intro args h hc
  obtain ⟨⟨s, p, es⟩, rfl, ⟨⟨hB1, hB2⟩, hB3⟩, hP, hgo⟩ := mkH_inv hc
  rw [hgo]; clear hgo hc
  simp only at hB1 hB2 hP
  have d1 := poP_dec s p
  have hs := hP.s
  have hk := kR_of hP.s hP.p
  simp only [pk, kR] at hk
  obtain ⟨⟨k1, k2⟩, ⟨k3, k4⟩, k5, k6⟩ := hk
  have hkt := kt_po
  have hz : endB s es p = (downB s p || (awayB s p || (kv es p == 2))) := rfl
  generalize hb : (h 7903).base = b at *
  have hself : hps [(7903, gn b), (4403, knS1), (4404, knS2 es)] h = h := hps_self (by
    intro k hk
    simp at hk
    rcases hk with rfl | rfl | rfl
    · rw [hB3, hb]; rfl
    · rw [hB1]; rfl
    · rw [hB2]; rfl)
  rw [← hself]
  cases h1 : downB s p
  case true =>
    simp -dsimp [Tryz.f79, E79, knE, knV, gn, knS1, knS2, knM, St.row, Po.row]
    repeat' (first | omega | (simp -dsimp [E79, ri, cellp, ints, St.row, Po.row, d1, hz, h1, gn, knS1, knS2, knM]) | (refine Also.intro ?_ fun _ => ?_) | (refine Hold.intro fun _ => ?_) | (refine And.intro ?_ ?_))
    exact (by (try simp -dsimp only [hpush_noH, hpush_hps, hps_over]); refine hle_hpsb ?_; simp -dsimp [allK, gn, knS1, knS2]; repeat' (first | (refine And.intro ?_ ?_) | (refine sLe.same ?_ ?_ <;> (simp; done)) | (refine sLe.clear ?_ ?_ <;> (first | (simp; done) | (simp; omega))) | (refine sLe.drop 1 ?_ ?_ ?_ <;> (simp; done))))
  cases h2 : awayB s p
  case true =>
    simp -dsimp [Tryz.f79, E79, knE, knV, gn, knS1, knS2, knM, St.row, Po.row]
    repeat' (first | omega | (simp -dsimp [E79, ri, cellp, ints, St.row, Po.row, d1, hP, hz, h1, h2, gn, knS1, knS2, knM]) | (refine Also.intro ?_ fun _ => ?_) | (refine Hold.intro fun _ => ?_) | (refine And.intro ?_ ?_))
    exact (by (try simp -dsimp only [hpush_noH, hpush_hps, hps_over]); refine hle_hpsb ?_; simp -dsimp [allK, gn, knS1, knS2]; repeat' (first | (refine And.intro ?_ ?_) | (refine sLe.same ?_ ?_ <;> (simp; done)) | (refine sLe.clear ?_ ?_ <;> (first | (simp; done) | (simp; omega))) | (refine sLe.drop 1 ?_ ?_ ?_ <;> (simp; done))))
  have hkv : ((mlook es (p.x, p.v, p.h)).getD [0]).head?.getD 0 = kv es p := by simp [kv, pk]
  simp -dsimp [Tryz.f79, E79, knE, knV, gn, knS1, knS2, knM, St.row, Po.row]
  repeat' (first | omega | (simp -dsimp [E79, ri, cellp, ints, St.row, Po.row, d1, hP, hz, h1, h2, hkt, Mp.get, hkv, gn, knS1, knS2, knM]) | (refine Also.intro ?_ fun _ => ?_) | (refine Hold.intro fun _ => ?_) | (refine And.intro ?_ ?_))
  exact (by (try simp -dsimp only [hpush_noH, hpush_hps, hps_over]); refine hle_hpsb ?_; simp -dsimp [allK, gn, knS1, knS2]; repeat' (first | (refine And.intro ?_ ?_) | (refine sLe.same ?_ ?_ <;> (simp; done)) | (refine sLe.clear ?_ ?_ <;> (first | (simp; done) | (simp; omega))) | (refine sLe.drop 1 ?_ ?_ ?_ <;> (simp; done))))
theorem ok79 : FnOK Tryz.prog 79 (.heap knEndS) := heap_fn (E := E79) rfl (.cons ok80 (.cons ok48 .nil)) (ok := []) (fn := Tryz.f79) (by kernel_rfl) (by kernel_rfl) (by kernel_rfl) (by kernel_rfl) rfl (fun args h hc => by obtain ⟨d, rfl, _⟩ := mkH_inv hc; simp [knE]) b79
end Go.Sx.Rot
end
section
/- Engine: what says whether a pose is covered, as it is made. No conditions. -/
set_option linter.unusedSimpArgs false
set_option linter.unusedSectionVars false
set_option maxRecDepth 100000
set_option maxHeartbeats 8000000
namespace Go.Sx.Rot
open Go.Proofs Go.Sx Go.Sx.Tab
attribute [local irreducible] HLe
attribute [local simp] hps_app mpEl_before mpEl_known zMp_po zMp_int cz142 tk142 ag142 by142 zz142
def covV (s : St) : V := .fn 77 [knV, .ip 5 [s.row] 0 0]
def covE (s : St) : List V := [.agg s.row]
theorem covE_inj (a b : St) (h : covE a = covE b) : a = b := St.row_inj _ _ (by simpa [covE] using h)
structure CovP (h : Hp) : Prop where
  a : Cln h 4401
  b : h 4403 = gn 0
  c : h 4404 = gn 0
noncomputable abbrev covS : HSpec := mkH covE (fun _ h => CovP h) (fun _ => True) covV (fun _ h => hps [(4401, gn ((h 4401).base + 1)), (4403, knS1), (4404, knS2 [])] h)
theorem cov_go (s : St) {h : Hp} (hc : CovP h) : covS.go (covE s) h = ⟨True, covV s, hps [(4401, gn ((h 4401).base + 1)), (4403, knS1), (4404, knS2 [])] h⟩ := mkH_at (fun d d' _ e _ _ => covE_inj d d' e) (d := s) hc
noncomputable abbrev E44 : Env := { P := Tryz.prog, fn := tbl [], own := [], key := 4400, nt := 6, frz := [(2, [1, 50001])] }
theorem b44 : HeapBody E44 [] Tryz.f44 covS := by
  intro args h hc
  obtain ⟨s, rfl, ⟨hB1, hB2, hB3⟩, _, hgo⟩ := mkH_inv hc
  rw [hgo]; clear hgo hc
  generalize hb : (h 4401).base = b at *
  have hself : hps [(4401, gn b), (4403, gn 0), (4404, gn 0)] h = h := hps_self (by
    intro k hk
    simp at hk
    rcases hk with rfl | rfl | rfl
    · rw [hB1, hb]; rfl
    · rw [hB2]; rfl
    · rw [hB3]; rfl)
  rw [← hself]
  simp -dsimp [Tryz.f44, E44, covE, covV, knV, gn, knS1, knS2, knM, St.row]
  repeat' (first | omega | (simp -dsimp [E44, ri, cellp, ints, St.row, gn, knS1, knS2, knM, covV, knV]) | (refine Also.intro ?_ fun _ => ?_) | (refine Hold.intro fun _ => ?_) | (refine And.intro ?_ ?_))
  exact (by (try simp -dsimp only [hpush_noH, hpush_hps, hps_over]); refine hle_hpsb ?_; simp -dsimp [allK, gn, knS1, knS2]; repeat' (first | (refine And.intro ?_ ?_) | (refine sLe.same ?_ ?_ <;> (simp; done)) | (refine sLe.clear ?_ ?_ <;> (first | (simp; done) | (simp; omega))) | (refine sLe.drop 1 ?_ ?_ ?_ <;> (simp; done))))
theorem ok44 : FnOK Tryz.prog 44 (.heap covS) := heap_fn (E := E44) rfl LOK.nil (ok := []) (fn := Tryz.f44) (by kernel_rfl) (by kernel_rfl) (by kernel_rfl) (by kernel_rfl) rfl (fun args h hc => by obtain ⟨d, rfl, _⟩ := mkH_inv hc; simp [covE]) b44
end Go.Sx.Rot
end
section
/- Engine: what is kept of poses that were looked at (plain). No conditions. -/
set_option linter.unusedSimpArgs false
set_option linter.unusedSectionVars false
namespace Go.Sx.Rot
open Go.Proofs Go.Sx Go.Sx.Tab
theorem mlook_mput (k k' : Int × Int × Int) (v : List Int) : ∀ l : List Ent, mlook (mput l k v) k' = if k' = k then some v else mlook l k'
  | [] => by simp only [mput, mlook]
  | (a, x) :: l => by
    have ih := mlook_mput k k' v l
    simp only [mput]
    by_cases h : k = a
    · rw [if_pos h]
      subst h
      simp only [mlook]
      by_cases h2 : k' = k
      · rw [if_pos h2, if_pos h2]
      · rw [if_neg h2, if_neg h2, if_neg h2]
    · rw [if_neg h]
      simp only [mlook, ih]
      by_cases h2 : k' = a
      · rw [if_pos h2, if_pos h2, if_neg (fun e => h (e.symm.trans h2))]
      · rw [if_neg h2, if_neg h2]
structure Mem (s : St) (es : List Ent) : Prop where
  m : ∀ p v, mlook es (pk p) = some v → (v = [2] ∧ Cov s p) ∨ (v = [1] ∧ ¬ Cov s p)
theorem Mem.nil (s : St) : Mem s [] := ⟨fun _ _ h => by simp [mlook] at h⟩
theorem Mem.kv {s : St} {es : List Ent} (h : Mem s es) (p : Po) : (kv es p = 0 ∧ mlook es (pk p) = none) ∨ (kv es p = 2 ∧ Cov s p) ∨ (kv es p = 1 ∧ ¬ Cov s p) := by
  unfold Go.Sx.Rot.kv
  cases hl : mlook es (pk p) with
  | none => exact .inl ⟨rfl, rfl⟩
  | some v =>
    rcases h.m p v hl with ⟨rfl, hc⟩ | ⟨rfl, hc⟩
    · exact .inr (.inl ⟨rfl, hc⟩)
    · exact .inr (.inr ⟨rfl, hc⟩)
def es1 (es : List Ent) (p : Po) : List Ent := mput es (pk p) [1]
theorem kv_es1 (es : List Ent) (p q : Po) : kv (es1 es p) q = if q = p then 1 else kv es q := by
  unfold kv es1
  rw [mlook_mput]
  by_cases h : q = p
  · subst h; simp
  · rw [if_neg h, if_neg (fun e => h (pk_inj e))]
theorem found_iff {s : St} {es : List Ent} {p : Po} (h : Mem s es) : (∃ q, Rch s p q ∧ endB s (es1 es p) q = true) ↔ Cov s p := by
  constructor
  · rintro ⟨q, hr, he⟩
    simp only [endB, Bool.or_eq_true, beq_iff_eq] at he
    rcases he with he | he | he
    · exact ⟨q, hr, .inl he⟩
    · exact ⟨q, hr, .inr he⟩
    · rw [kv_es1] at he
      split at he
      · omega
      · rcases h.kv q with hk | hk | hk
        · omega
        · exact .of hr hk.2
        · omega
  · rintro ⟨q, hr, he⟩
    refine ⟨q, hr, ?_⟩
    simp only [endB, Bool.or_eq_true]
    rcases he with he | he
    · exact .inl he
    · exact .inr (.inl he)
open Classical in
noncomputable def covB (s : St) (p : Po) : Bool := decide (Cov s p)
noncomputable def es2 (s : St) (es : List Ent) (p : Po) : List Ent := if kv es p = 0 then (if covB s p = true then mput (es1 es p) (pk p) [2] else es1 es p) else es
theorem es2_mem {s : St} {es : List Ent} {p : Po} (h : Mem s es) : Mem s (es2 s es p) := by
  unfold es2
  split
  case isFalse => exact h
  refine ⟨fun q v hq => ?_⟩
  split at hq
  · rename_i hc
    have hc : Cov s p := by simpa [covB] using hc
    unfold es1 at hq
    rw [mlook_mput, mlook_mput] at hq
    split at hq
    · rename_i e
      have := pk_inj e
      subst this
      cases hq
      exact .inl ⟨rfl, hc⟩
    · exact h.m q v hq
  · rename_i hc
    have hc : ¬ Cov s p := by simpa [covB] using hc
    unfold es1 at hq
    rw [mlook_mput] at hq
    split at hq
    · rename_i e
      have := pk_inj e
      subst this
      cases hq
      exact .inr ⟨rfl, hc⟩
    · exact h.m q v hq
end Go.Sx.Rot
end
