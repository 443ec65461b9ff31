/- A part of a proof; no conditions. -/
import Derived.Test.YtnpdjaikmdagmaaGreatDoorP21
import Derived.Test.YtnpdjaikmdagmaaGreatDoorP24
import Derived.SizedLaws
import Derived.Test.YtnpdjaikmdagmaaGreatDoorP10
import Derived.ProofKit
set_option linter.unusedSimpArgs false
set_option linter.unusedVariables false
set_option linter.unusedSectionVars false
section
/- Parts: Suspects of the reference is the program's. No conditions. -/
set_option linter.unusedSimpArgs false
set_option linter.unusedSectionVars false
set_option maxRecDepth 100000
set_option maxHeartbeats 8000000
namespace Go.Sx
open Go.Proofs
attribute [local irreducible] HLe
attribute [local simp] hps_app

theorem suSet_mem (l : List Int) (x : Int) : x ∈ suSet l ↔ x ∈ l := by
  unfold suSet
  rw [cpTo_mem _ _ _ (Nat.le_refl _), ← srtZ_mem l x, List.mem_iff_getElem]
  constructor
  · rintro ⟨j, h1, h2⟩; exact ⟨j, h1, by simpa [List.getD, h1] using h2⟩
  · rintro ⟨j, h1, h2⟩; exact ⟨j, h1, by simpa [List.getD, h1] using h2⟩
theorem suSet_inc (l : List Int) : (suSet l).Pairwise (· < ·) := (cpTo_inc (srtZ_asc l) _ (Nat.le_refl _)).1
theorem suSet_len (l : List Int) : (suSet l).length ≤ l.length := by
  have := cpTo_len (srtZ l) (srtZ l).length
  rw [srtZ_len] at this
  unfold suSet; rw [srtZ_len]; exact this
/-- Is a part at the place of one of the first worn gears? -/
def HI.hitT (x : HI) (m : Int) (pl : List (Int × Int)) (wo : List Int) (p : Nat) (j : Nat) : Bool := (wo.take j).any fun g => x.at (pl.getD g.toNat (0, 0)).1 m (pl.getD g.toNat (0, 0)).2 == (p : Int)
theorem HI.hitT_succ (x : HI) {m : Int} {pl : List (Int × Int)} {wo : List Int} {p j : Nat} {g : Nat} {a b : Int} (hg : wo[j]? = some (g : Int)) (hp : pl[g]? = some (a, b)) : x.hitT m pl wo p (j + 1) = (x.hitT m pl wo p j || x.at a m b == (p : Int)) := by
  unfold HI.hitT
  rw [List.take_add_one, hg, List.any_append]
  simp [List.getD, hp]
def HI.rsuTo (x : HI) (m : Int) (pl : List (Int × Int)) (wo : List Int) : Nat → List Int
  | 0 => []
  | k + 1 => if x.hitT m pl wo k wo.length = true then x.rsuTo m pl wo k ++ [(k : Int)] else x.rsuTo m pl wo k
theorem HI.rsuTo_len (x : HI) (m : Int) (pl : List (Int × Int)) (wo : List Int) : ∀ k, (x.rsuTo m pl wo k).length ≤ k
  | 0 => by simp [HI.rsuTo]
  | k + 1 => by
    have := x.rsuTo_len m pl wo k
    unfold HI.rsuTo; split
    · simp; omega
    · omega
theorem HI.rsuTo_mem (x : HI) (m : Int) (pl : List (Int × Int)) (wo : List Int) (z : Int) : ∀ k, z ∈ x.rsuTo m pl wo k ↔ ∃ p : Nat, p < k ∧ z = p ∧ x.hitT m pl wo p wo.length = true
  | 0 => by simp [HI.rsuTo]
  | k + 1 => by
    have ih := x.rsuTo_mem m pl wo z k
    unfold HI.rsuTo
    split
    · rename_i h
      rw [List.mem_append, ih, List.mem_singleton]
      constructor
      · rintro (⟨p, h1, h2⟩ | h1)
        · exact ⟨p, by omega, h2⟩
        · exact ⟨k, by omega, h1, h⟩
      · rintro ⟨p, h1, h2, h3⟩
        by_cases e : p = k
        · subst e; exact .inr h2
        · exact .inl ⟨p, by omega, h2, h3⟩
    · rename_i h
      rw [ih]
      constructor
      · rintro ⟨p, h1, h2⟩; exact ⟨p, by omega, h2⟩
      · rintro ⟨p, h1, h2, h3⟩
        by_cases e : p = k
        · subst e; exact absurd h3 h
        · exact ⟨p, by omega, h2, h3⟩
theorem HI.rsuTo_inc (x : HI) (m : Int) (pl : List (Int × Int)) (wo : List Int) : ∀ k, (x.rsuTo m pl wo k).Pairwise (· < ·)
  | 0 => by simp [HI.rsuTo]
  | k + 1 => by
    have ih := x.rsuTo_inc m pl wo k
    unfold HI.rsuTo
    split
    · refine List.pairwise_append.2 ⟨ih, List.pairwise_singleton _ _, fun z hz y hy => ?_⟩
      rw [List.mem_singleton] at hy; subst hy
      obtain ⟨p, h1, rfl, _⟩ := (x.rsuTo_mem m pl wo z k).1 hz
      omega
    · exact ih
theorem HI.rsu_eq (x : HI) (m : Int) (pl : List (Int × Int)) (wo : List Int) : x.rsuTo m pl wo x.ps.length = suSet (x.suOut m pl wo) := by
  refine asc_eq (x.rsuTo_inc m pl wo _) (suSet_inc _) fun z => ?_
  rw [suSet_mem, x.rsuTo_mem]
  unfold HI.suOut HI.hitT
  rw [List.take_length]
  simp only [List.mem_filter, List.mem_map, decide_eq_true_eq, List.any_eq_true, beq_iff_eq]
  constructor
  · rintro ⟨p, h1, rfl, g, hg, hat⟩
    exact ⟨⟨g, hg, hat⟩, by omega⟩
  · rintro ⟨⟨g, hg, hat⟩, hz⟩
    obtain ⟨n, hn, e1, _⟩ := idxZ_some (l := x.ps) (p := atIs (pl.getD g.toNat (0, 0)).1 m (pl.getD g.toNat (0, 0)).2) (by show x.at _ _ _ ≠ -1; omega)
    have e1 : x.at (pl.getD g.toNat (0, 0)).1 m (pl.getD g.toNat (0, 0)).2 = n := e1
    exact ⟨n, hn, by omega, g, hg, e1⟩
theorem at_hi {r : Reg} {l : List Wk} (h : opE r l = 0) (a b c : Int) : ((rT r l l.length).hi r).at a b c = (opH r l).i.at a b c := (at_core (opE_rel h).2.core.2.1 a b c).symm

def cmE (r : Reg) (l : List Wk) (n : Int) : Int := if opE r l = 0 then (if withinB n 0 (IntKind.wrap .i64 (r.machines - 1)) = true then 0 else 1) else opE r l
noncomputable abbrev cmS : PSpec := mkP rnE RLN.Fine fun d => .int .i64 (cmE d.r d.l d.n)
noncomputable abbrev E36 : Env := { P := Tryz.prog, fn := tbl [(37, .pure withinS), (65, .pure checkFS)], own := [], key := 3600, nt := 24 }
theorem b36 : PureBody E36 [] Tryz.f36 cmS := by
  refine pb ?_
  rintro ⟨r, l, n⟩ hfn
  have hfn : RL.Fine ⟨r, l⟩ := hfn
  by_cases hE : opE r l = 0
  · cases h1 : withinB n 0 (IntKind.wrap .i64 (r.machines - 1))
    · have hz : cmE r l n = 1 := by simp [cmE, hE, h1]
      simp -dsimp [Tryz.f36, E36, Reg.row]
      repeat' (first | omega | (simp -dsimp [E36, ri, cellp, ints, rlE_dec', Reg.row, hfn, hE, h1, hz]) | (refine Also.intro ?_ fun _ => ?_) | (refine Hold.intro fun _ => ?_) | (refine And.intro ?_ ?_))
    · have hz : cmE r l n = 0 := by simp [cmE, hE, h1]
      simp -dsimp [Tryz.f36, E36, Reg.row]
      repeat' (first | omega | (simp -dsimp [E36, ri, cellp, ints, rlE_dec', Reg.row, hfn, hE, h1, hz]) | (refine Also.intro ?_ fun _ => ?_) | (refine Hold.intro fun _ => ?_) | (refine And.intro ?_ ?_))
  · have hz : cmE r l n = opE r l := by simp [cmE, hE]
    simp -dsimp [Tryz.f36, E36, Reg.row]
    repeat' (first | omega | (simp -dsimp [E36, ri, cellp, ints, rlE_dec', Reg.row, hfn, hE, hz]) | (refine Also.intro ?_ fun _ => ?_) | (refine Hold.intro fun _ => ?_) | (refine And.intro ?_ ?_))
theorem ok36 : FnOK Tryz.prog 36 (.pure cmS) := pure_fn (E := E36) rfl (.cons ok37 (.cons ok65 .nil)) (ok := []) (fn := Tryz.f36) (by kernel_rfl) (by kernel_rfl) (by kernel_rfl) (by kernel_rfl) rfl (fun _ _ => by simp) b36
noncomputable abbrev E13 : Env := { P := Tryz.prog, fn := tbl [(36, .pure cmS), (37, .pure withinS), (38, .pure ExplainS), (39, .pure behindS), (40, .pure rpartS)], own := [], key := 1300, nt := 127 }
theorem b13 : PureBody E13 [] Tryz.f13 suS := by
  refine pb ?_
  rintro ⟨r, l, m, pl, ch⟩ ⟨hfn, hpl, hch⟩
  simp only at hfn hpl hch
  have hfn' : RLN.Fine ⟨r, l, m⟩ := hfn
  by_cases hE : opE r l = 0
  case neg =>
    have hC : cmE r l m = opE r l := by simp [cmE, hE]
    have hR : suEr r l m pl ch = opE r l := by simp [suEr, hE]
    have hR2 : suRe r l m pl ch = [] := by simp [suRe, hR, hE]
    simp -dsimp [Tryz.f13, E13, Reg.row]
    repeat' (first | omega | (exact sub0_snV _) | (exact sub0_dnV _) | (simp -dsimp [E13, ri, cellp, ints, rnE_dec', Reg.row, hfn', hE, hC, hR, hR2]) | (refine Also.intro ?_ fun _ => ?_) | (refine Hold.intro fun _ => ?_) | (refine And.intro ?_ ?_))
  have hI := (opE_inv hE).2.2.2
  have hrg : (opH r l).i.r = r := hI.rg
  have hkl : r.kinds.length ≤ 6 := (valid_facts hI.val).1
  have hpl24 : r.parts.length ≤ 24 := (valid_facts hI.val).2.1
  have hpsl : (opH r l).i.ps.length = r.parts.length := hI.psl
  have hEr : suEr r l m pl ch = if (opH r l).i.suBad m pl = true then 1 else if (explR 8 pl.length ch).2.2 = 0 then 0 else 1 := by simp [suEr, hE]
  have hRe : suRe r l m pl ch = if suEr r l m pl ch = 0 then suSet ((opH r l).i.suOut m pl (explR 8 pl.length ch).2.1) else [] := rfl
  have hma : (opH r l).i.machine m = withinB m 0 (IntKind.wrap .i64 (r.machines - 1)) := by show withinB m 0 (wsub (opH r l).i.r.machines 1) = _; rw [hrg]; rfl
  cases hm : withinB m 0 (IntKind.wrap .i64 (r.machines - 1))
  · have hC : cmE r l m = 1 := by simp [cmE, hE, hm]
    have hb : (opH r l).i.suBad m pl = true := by simp [HI.suBad, hma, hm]
    rw [if_pos hb] at hEr
    rw [hEr, if_neg (by decide)] at hRe
    simp -dsimp [Tryz.f13, E13, Reg.row]
    repeat' (first | omega | (exact sub0_snV _) | (exact sub0_dnV _) | (simp -dsimp [E13, ri, cellp, ints, rnE_dec', Reg.row, hfn', hE, hC, hEr, hRe]) | (refine Also.intro ?_ fun _ => ?_) | (refine Hold.intro fun _ => ?_) | (refine And.intro ?_ ?_))
  have hC : cmE r l m = 0 := by simp [cmE, hE, hm]
  cases hw : withinB pl.length 1 12
  · have hb : (opH r l).i.suBad m pl = true := by simp [HI.suBad, hw]
    rw [if_pos hb] at hEr
    rw [hEr, if_neg (by decide)] at hRe
    simp -dsimp [Tryz.f13, E13, Reg.row]
    repeat' (first | omega | (exact sub0_snV _) | (exact sub0_dnV _) | (simp -dsimp [E13, ri, cellp, ints, rnE_dec', Reg.row, hfn', hE, hC, hw, hEr, hRe]) | (refine Also.intro ?_ fun _ => ?_) | (refine Hold.intro fun _ => ?_) | (refine And.intro ?_ ?_))
  have hp12 : pl.length ≤ 12 := by
    have : 1 ≤ (pl.length : Int) ∧ (pl.length : Int) ≤ 12 := by simpa [withinB] using hw
    omega
  have hbp : ∀ p : Int × Int, (opH r l).i.badPl p = (!withinB p.1 0 (r.kinds.length - 1) || !withinB p.2 0 (IntKind.wrap .i64 ((r.kinds.getD p.1.toNat default).places - 1))) := fun p => by
    unfold HI.badPl
    rw [hrg, show wsub r.kinds.length 1 = (r.kinds.length : Int) - 1 from wrap_id (by omega) (by omega)]
    rfl
  have wkl : IntKind.wrap .i64 ((r.kinds.length : Int) - 1) = r.kinds.length - 1 := wrap_id (by omega) (by omega)
  simp -dsimp [Tryz.f13, E13, Reg.row]
  repeat' (first | omega | (exact sub0_snV _) | (exact sub0_dnV _) | (simp -dsimp [E13, ri, cellp, ints, rnE_dec', Reg.row, hfn', hE, hC, hw]) | (refine Also.intro ?_ fun _ => ?_) | (refine Hold.intro fun _ => ?_) | (refine And.intro ?_ ?_))
  refine awp_loop [33, 34, 35, 36, 39, 40, 41, 42, 43, 44, 45, 46, 47, 48, 49, 50, 51, 52, 53, 54, 55, 56, 57, 58, 59, 60, 61, 62, 63, 64, 65, 66, 67, 68, 69, 10, 11, 37, 38, 13] (fun k : { k : Nat // k ≤ pl.length ∧ ∀ j (h : j < pl.length), j < k → (opH r l).i.badPl pl[j] = false } => [(13, (true, .int .i64 k.1))]) (fun _ => _) (fun k => pl.length - k.1) ⟨0, by omega, fun _ _ h => by omega⟩ ?_ (HLe.refl _) ?_
  · simp [okAll, okv]
  rintro ⟨k, hk, hall⟩
  dsimp only
  by_cases hk1 : k < pl.length
  · have hki : ((k : Int) < pl.length) = True := eq_true (by omega)
    have wk : IntKind.wrap .i64 ((k : Int) + 1) = (k + 1 : Nat) := wrap_id (by omega) (by omega)
    obtain ⟨⟨a, b⟩, hg, hg'⟩ := get_ex hk1
    have hba := hbp (a, b)
    simp only at hba
    have hbad : (opH r l).i.badPl (a, b) = true → (opH r l).i.suBad m pl = true := fun h => by
      have : pl.any (opH r l).i.badPl = true := List.any_eq_true.2 ⟨(a, b), by rw [← hg']; exact List.getElem_mem hk1, h⟩
      simp [HI.suBad, this]
    cases h1 : withinB a 0 (r.kinds.length - 1)
    · have hb := hbad (by rw [hba, h1]; rfl)
      rw [if_pos hb] at hEr
      rw [hEr, if_neg (by decide)] at hRe
      simp -dsimp [hki]
      repeat' (first | omega | (exact sub0_snV _) | (exact sub0_dnV _) | (simp -dsimp [E13, ri, cellp, ints, hki, hk1, hg, hg', cycV, wkl, h1, hEr, hRe]) | (refine Also.intro ?_ fun _ => ?_) | (refine Hold.intro fun _ => ?_) | (refine And.intro ?_ ?_))
    · have ha : 0 ≤ a ∧ a ≤ r.kinds.length - 1 := by simpa [withinB] using h1
      obtain ⟨A, rfl⟩ : ∃ A : Nat, a = A := ⟨a.toNat, by omega⟩
      have hA : A < r.kinds.length := by omega
      have hAi : (A : Int) < r.kinds.length := by omega
      obtain ⟨K, hK, hK'⟩ := get_ex hA
      have hKd : r.kinds.getD ((A : Int)).toNat default = K := by simp [List.getD, hK]
      rw [hKd] at hba
      cases h2 : withinB b 0 (IntKind.wrap .i64 (K.places - 1))
      · have hb := hbad (by rw [hba, h1, h2]; rfl)
        rw [if_pos hb] at hEr
        rw [hEr, if_neg (by decide)] at hRe
        simp -dsimp [hki]
        repeat' (first | omega | (exact sub0_snV _) | (exact sub0_dnV _) | (simp -dsimp [E13, ri, cellp, ints, hki, hk1, hg, hg', cycV, wkl, h1, hA, hAi, hK, hK', Kd.row, h2, hEr, hRe]) | (refine Also.intro ?_ fun _ => ?_) | (refine Hold.intro fun _ => ?_) | (refine And.intro ?_ ?_))
      · simp -dsimp [hki]
        repeat' (first | omega | (exact sub0_snV _) | (exact sub0_dnV _) | (simp -dsimp [E13, ri, cellp, ints, hki, hk1, hg, hg', cycV, wkl, h1, hA, hAi, hK, hK', Kd.row, h2, wk]) | (refine Also.intro ?_ fun _ => ?_) | (refine Hold.intro fun _ => ?_) | (refine And.intro ?_ ?_))
        refine ⟨k + 1, tle_chain rfl ?_, HLe.refl _, ⟨by omega, fun j h hj => ?_⟩, by omega⟩
        · simp [okAll, okv]
        · by_cases e : j = k
          · subst e; rw [hg', hba, h1, h2]; rfl
          · exact hall j h (by omega)
  have hkn : ((k : Int) < pl.length) = False := eq_false (by omega)
  have hany : pl.any (opH r l).i.badPl = false := by
    rw [List.any_eq_false]
    intro p hp
    obtain ⟨j, hj, rfl⟩ := List.getElem_of_mem hp
    rw [hall j hj (by omega)]; simp
  have hb : ¬ (opH r l).i.suBad m pl = true := by simp [HI.suBad, hma, hm, hw, hany]
  rw [if_neg hb] at hEr
  by_cases hx : (explR 8 pl.length ch).2.2 = 0
  case neg =>
    rw [if_neg hx] at hEr
    rw [hEr, if_neg (by decide)] at hRe
    simp -dsimp [hkn]
    repeat' (first | omega | (exact sub0_snV _) | (exact sub0_dnV _) | (simp -dsimp [E13, ri, cellp, ints, hkn, hpl, hch, hx, hEr, hRe]) | (refine Also.intro ?_ fun _ => ?_) | (refine Hold.intro fun _ => ?_) | (refine And.intro ?_ ?_))
  rw [if_pos hx] at hEr
  rw [hEr, if_pos rfl] at hRe
  have hwl : (explR 8 pl.length ch).2.1.length ≤ pl.length := expl_len (S := 8)
  have hwg : ∀ g ∈ (explR 8 pl.length ch).2.1, 0 ≤ g ∧ g < pl.length := expl_worn (S := 8)
  obtain ⟨lo, wo, hxe⟩ : ∃ lo wo, explR 8 pl.length ch = (lo, wo, 0) := ⟨_, _, by rw [← hx]⟩
  rw [hxe] at hwl hwg hRe
  simp only at hwl hwg hRe
  rw [← HI.rsu_eq, hpsl] at hRe
  have hWf := (opE_rel hE).1
  have hat := at_hi hE
  have hN := stRow (rT r l l.length)
  simp -dsimp [hkn]
  repeat' (first | omega | (exact sub0_snV _) | (exact sub0_dnV _) | (simp -dsimp [E13, ri, cellp, ints, hkn, hpl, hch, hxe, rlE_dec', Reg.row, hE, hN]) | (refine Also.intro ?_ fun _ => ?_) | (refine Hold.intro fun _ => ?_) | (refine And.intro ?_ ?_))
  clear hbp hall hany hb hma hx
  generalize rT r l l.length = T at *
  generalize (opH r l).i = s at *
  refine awp_loop_g [(18, 13125, 1, 3)] rfl (by simp) [83, 84, 85, 86, 87, 20, 21, 90, 91, 92, 93, 96, 97, 98, 99, 100, 101, 102, 103, 104, 105, 106, 107, 108, 109, 110, 111, 112, 113, 114, 115, 116, 117, 118, 119, 120, 94, 95, 121, 122, 123, 124, 125, 18, 88, 89, 19] (fun k : Fin (r.parts.length + 1) => [(19, (true, .int .i64 (k.1 : Nat))), (18, (true, .bsl 13125 0 (s.rsuTo m pl wo k.1).length))])
    (fun k => hps [(13125, { base := 0, blks := [{ z := 1, els := (s.rsuTo m pl wo k.1).map ri, ty := 3 }] }), (1317, { base := 0, blks := [{ z := 5, els := [[.sl 2 (T.used.map cycV), .sl 2 (T.whr.map cycV), .sl 1 (T.iss.map rb), snV T.since, dnV T.done]], ty := 101 }] }), (1305, { base := 0, blks := [{ z := 4, els := [[.sl 3 (r.kinds.map Kd.row), .sl 4 (r.parts.map Pt.row), .int .i64 r.machines, .sl 2 (r.orders.map Od.row)]], ty := 26 }] })] noH) (fun k => r.parts.length - k.1) ⟨0, by omega⟩ ?_ ?_ ?_
  · simp [okAll, okv, HI.rsuTo]
  · exact (by (try simp -dsimp only [hpush_noH, hpush_hps, hps_over]); refine hle_hps ?_; simp -dsimp [allK, HI.rsuTo]; repeat' (first | (refine And.intro ?_ ?_) | (refine sLe.same ?_ ?_ <;> (simp; done)) | (refine sLe.clear ?_ ?_ <;> (first | (simp; done) | (simp; omega))) | (refine sLe.drop 1 ?_ ?_ ?_ <;> (simp; done))))
  rintro ⟨k, hk⟩
  simp only
  by_cases hk1 : k < r.parts.length
  · have hki : ((k : Int) < r.parts.length) = True := eq_true (by omega)
    have wk : IntKind.wrap .i64 ((k : Int) + 1) = (k + 1 : Nat) := wrap_id (by omega) (by omega)
    have hT : s.rsuTo m pl wo (k + 1) = if s.hitT m pl wo k wo.length = true then s.rsuTo m pl wo k ++ [(k : Int)] else s.rsuTo m pl wo k := rfl
    have hTl := s.rsuTo_len m pl wo k
    generalize s.rsuTo m pl wo k = O at *
    have hb8 : (O.length + 1) * 8 ≤ 140737488355328 := by omega
    simp -dsimp [hki]
    repeat' (first | omega | (exact sub0_snV _) | (exact sub0_dnV _) | (simp -dsimp [E13, ri, cellp, ints, hki]) | (refine Also.intro ?_ fun _ => ?_) | (refine Hold.intro fun _ => ?_) | (refine And.intro ?_ ?_))
    refine awp_loop [90, 91, 92, 93, 96, 97, 98, 99, 100, 101, 102, 103, 104, 105, 106, 107, 108, 109, 110, 111, 112, 113, 114, 115, 116, 117, 118, 119, 120, 20, 94, 95, 21] (fun j : { j : Nat // j ≤ wo.length } => [(21, (true, .int .i64 j.1)), (20, (true, .bool (s.hitT m pl wo k j.1)))]) (fun _ => _) (fun j => wo.length - j.1) ⟨0, by omega⟩ ?_ (HLe.refl _) ?_
    · simp [okAll, okv, HI.hitT]
    rintro ⟨j, hj⟩
    dsimp only
    by_cases hj1 : j < wo.length
    · have hji : ((j : Int) < wo.length) = True := eq_true (by omega)
      have wj : IntKind.wrap .i64 ((j : Int) + 1) = (j + 1 : Nat) := wrap_id (by omega) (by omega)
      obtain ⟨g, hg, hg'⟩ := get_ex hj1
      obtain ⟨q1, q2⟩ := hwg g (by rw [← hg']; exact List.getElem_mem hj1)
      obtain ⟨G, rfl⟩ : ∃ G : Nat, g = G := ⟨g.toNat, by omega⟩
      have hGl : G < pl.length := by omega
      have hGi : (G : Int) < pl.length := by omega
      obtain ⟨⟨x, y⟩, hG, hG'⟩ := get_ex hGl
      have hS1 := s.hitT_succ (m := m) (p := k) hg hG
      have hat' := hat x m y
      generalize hcu : s.hitT m pl wo k j = cu at *
      cases cu
      · by_cases he : s.at x m y = k
        · simp -dsimp [hji]
          repeat' (first | omega | (exact sub0_snV _) | (exact sub0_dnV _) | (simp -dsimp [E13, ri, cellp, ints, hji, hj1, hg, hg', wj, hGl, hGi, hG, hG', cycV, Reg.row, rxE_dec', hWf, hat', he]) | (refine Also.intro ?_ fun _ => ?_) | (refine Hold.intro fun _ => ?_) | (refine And.intro ?_ ?_))
          refine ⟨j + 1, tle_chain rfl ?_, HLe.refl _, by omega, by omega⟩
          simp [okAll, okv, hS1, he]
        · have he' : (s.at x m y = (k : Int)) = False := eq_false he
          simp -dsimp [hji]
          repeat' (first | omega | (exact sub0_snV _) | (exact sub0_dnV _) | (simp -dsimp [E13, ri, cellp, ints, hji, hj1, hg, hg', wj, hGl, hGi, hG, hG', cycV, Reg.row, rxE_dec', hWf, hat', he']) | (refine Also.intro ?_ fun _ => ?_) | (refine Hold.intro fun _ => ?_) | (refine And.intro ?_ ?_))
          refine ⟨j + 1, tle_chain rfl ?_, HLe.refl _, by omega, by omega⟩
          simp [okAll, okv, hS1, he]
      · simp -dsimp [hji]
        repeat' (first | omega | (exact sub0_snV _) | (exact sub0_dnV _) | (simp -dsimp [E13, ri, cellp, ints, hji, hj1, hg, hg', wj, hGl, hGi, hG, hG', cycV]) | (refine Also.intro ?_ fun _ => ?_) | (refine Hold.intro fun _ => ?_) | (refine And.intro ?_ ?_))
        refine ⟨j + 1, tle_chain rfl ?_, HLe.refl _, by omega, by omega⟩
        simp [okAll, okv, hS1]
    have hjn : ((j : Int) < wo.length) = False := eq_false (by omega)
    have hje : j = wo.length := by omega
    subst hje
    cases hh : s.hitT m pl wo k wo.length
    · rw [hh, if_neg (by simp)] at hT
      simp -dsimp [hjn]
      repeat' (first | omega | (exact sub0_snV _) | (exact sub0_dnV _) | (simp -dsimp [E13, ri, cellp, ints, hjn, wk]) | (refine Also.intro ?_ fun _ => ?_) | (refine Hold.intro fun _ => ?_) | (refine And.intro ?_ ?_))
      refine ⟨⟨k + 1, by omega⟩, tle_kept (kept_upds rfl (kept_forget rfl (kept_upds rfl kept_base))) ?_, (by (try simp -dsimp only [hpush_noH, hpush_hps, hps_over]); refine hle_hps ?_; simp -dsimp [allK, hT, ri]; repeat' (first | (refine And.intro ?_ ?_) | (refine sLe.same ?_ ?_ <;> (simp; done)) | (refine sLe.clear ?_ ?_ <;> (first | (simp; done) | (simp; omega))) | (refine sLe.drop 1 ?_ ?_ ?_ <;> (simp; done)))), by simp only; omega⟩
      simp [okAll, okv, hT]
    · rw [hh, if_pos rfl] at hT
      simp -dsimp [hjn]
      repeat' (first | omega | (exact sub0_snV _) | (exact sub0_dnV _) | (simp -dsimp [E13, ri, cellp, ints, hjn, wk, hb8]) | (refine Also.intro ?_ fun _ => ?_) | (refine Hold.intro fun _ => ?_) | (refine And.intro ?_ ?_))
      refine ⟨⟨k + 1, by omega⟩, tle_kept (kept_upds rfl (kept_forget rfl (kept_upds rfl kept_base))) ?_, (by (try simp -dsimp only [hpush_noH, hpush_hps, hps_over]); refine hle_hps ?_; simp -dsimp [allK, hT, ri]; repeat' (first | (refine And.intro ?_ ?_) | (refine sLe.same ?_ ?_ <;> (simp; done)) | (refine sLe.clear ?_ ?_ <;> (first | (simp; done) | (simp; omega))) | (refine sLe.drop 1 ?_ ?_ ?_ <;> (simp; done)))), by simp only; omega⟩
      simp [okAll, okv, hT]
  have hkn : ((k : Int) < r.parts.length) = False := eq_false (by omega)
  have hke : k = r.parts.length := by omega
  subst hke
  simp -dsimp [hkn]
  repeat' (first | omega | (exact sub0_snV _) | (exact sub0_dnV _) | (simp -dsimp [E13, ri, cellp, ints, hkn, hRe, hEr]) | (refine Also.intro ?_ fun _ => ?_) | (refine Hold.intro fun _ => ?_) | (refine And.intro ?_ ?_))
theorem ok13 : FnOK Tryz.prog 13 (.pure suS) := pure_fn (E := E13) rfl (.cons ok36 (.cons ok37 (.cons ok38 (.cons ok39 (.cons ok40 .nil))))) (ok := []) (fn := Tryz.f13) (by kernel_rfl) (by kernel_rfl) (by kernel_rfl) (by kernel_rfl) rfl (fun _ _ => by simp) b13
end Go.Sx
end
section
/- Parts: the law about Check, Used and Where. No conditions. -/
set_option linter.unusedSimpArgs false
set_option linter.unusedSectionVars false
set_option maxRecDepth 100000
set_option maxHeartbeats 4000000
namespace Go.Sx
open Go.Proofs
attribute [local irreducible] HLe
attribute [local simp] hps_app

@[simp] def wkE (l : List Wk) : List V := [.sl 4 (l.map Wk.row)]
theorem wkE_inj (a b : List Wk) (h : wkE a = wkE b) : a = b := map_inj Wk.row_inj (by simpa using h)
theorem wkE_dec (l : List Wk) : decC wkE [.sl 4 (l.map Wk.row)] = l := decC_eq wkE_inj l
def longB (l : List Wk) : Bool := decide (40 < l.length) && decide (l.length ≤ 200)
noncomputable abbrev longS : PSpec := mkP wkE (fun l => l.length ≤ 9223372036854775807) fun l => .bool (longB l)
noncomputable abbrev E11 : Env := { P := Tryz.prog, fn := tbl [], own := [], key := 1100, nt := 11 }
theorem b11 : PureBody E11 [] Tryz.f11 longS := by
  refine pb ?_
  rintro l hl
  by_cases h1 : 40 < l.length
  · have h1' : (40 : Int) < l.length := by omega
    by_cases h2 : l.length ≤ 200
    · have h2' : (l.length : Int) ≤ 200 := by omega
      simp -dsimp [Tryz.f11, E11]
      repeat' (first | omega | (simp -dsimp [E11, ri, cellp, ints, h1, h1', h2, h2', longB]) | (refine Also.intro ?_ fun _ => ?_) | (refine Hold.intro fun _ => ?_) | (refine And.intro ?_ ?_))
    · have h2' : ¬ (l.length : Int) ≤ 200 := by omega
      simp -dsimp [Tryz.f11, E11]
      repeat' (first | omega | (simp -dsimp [E11, ri, cellp, ints, h1, h1', h2, h2', longB]) | (refine Also.intro ?_ fun _ => ?_) | (refine Hold.intro fun _ => ?_) | (refine And.intro ?_ ?_))
  · have h1' : ¬ (40 : Int) < l.length := by omega
    simp -dsimp [Tryz.f11, E11]
    repeat' (first | omega | (simp -dsimp [E11, ri, cellp, ints, h1, h1', longB]) | (refine Also.intro ?_ fun _ => ?_) | (refine Hold.intro fun _ => ?_) | (refine And.intro ?_ ?_))
theorem ok11 : FnOK Tryz.prog 11 (.pure longS) := pure_fn (E := E11) rfl LOK.nil (ok := []) (fn := Tryz.f11) (by kernel_rfl) (by kernel_rfl) (by kernel_rfl) (by kernel_rfl) rfl (fun _ _ => by simp) b11
def rightB (r : Reg) (l : List Wk) : Bool := !longB l && (opE r l == 0)
noncomputable abbrev rightS : PSpec := mkP rlE RL.Fine fun d => .bool (rightB d.r d.l)
noncomputable abbrev lawChS : PSpec := mkP rlE RL.Fine fun _ => .bool true
theorem eaR_len {r : Reg} {l : List Wk} (b : Bool) : (eaR r l b).length ≤ 9223372036854775807 := by
  unfold eaR
  split
  · rename_i h
    have := (opE_ok h).ps
    simp; omega
  · simp
end Go.Sx
end
section
/- Parts: PartsSuspects. No conditions. -/
set_option linter.unusedSimpArgs false
set_option linter.unusedSectionVars false
set_option maxRecDepth 100000
set_option maxHeartbeats 8000000
namespace Go.Sx
open Go.Proofs
attribute [local irreducible] HLe
attribute [local simp] hps_app

section
attribute [local irreducible] awp
noncomputable abbrev E14 : Env := { P := Tryz.prog, fn := tbl [], own := [], key := 1400, nt := 26 }
theorem b14 : PureBody E14 [] Tryz.f14 sameS := by
  refine pb ?_
  rintro ⟨a, b⟩ ⟨p1, p2⟩
  simp only at p1 p2
  by_cases hl : a.length = b.length
  case neg =>
    have hne : ¬ a = b := fun e => hl (by rw [e])
    have hl' : ¬ (a.length : Int) = b.length := by omega
    simp -dsimp [Tryz.f14, E14, ints, hl']
    repeat' (first | omega | (simp -dsimp [E14, ri, cellp, ints, hl', hne]) | (refine Also.intro ?_ fun _ => ?_) | (refine Hold.intro fun _ => ?_) | (refine And.intro ?_ ?_))
  have hl' : (a.length : Int) = b.length := by omega
  simp -dsimp [Tryz.f14, E14, ints, hl']
  refine awp_loop [11, 12, 13, 14, 17, 18, 19, 20, 21, 22, 23, 24, 25, 4, 15, 16, 5]
    (fun k : { k : Nat // k ≤ a.length ∧ ∀ i (h1 : i < a.length) (h2 : i < b.length), i < k → a[i] = b[i] } => [(5, (true, .int .i64 (k.1 : Nat)))])
    (fun k => noH) (fun k => a.length - k.1) ⟨0, by omega, fun _ _ _ h => by omega⟩ ?_ (HLe.refl _) ?_
  · simp [okAll, okv]
  rintro ⟨k, hk, he⟩
  simp only
  by_cases hk1 : k < a.length
  · have hk2 : k < b.length := by omega
    have w1 : IntKind.wrap .i64 ((k : Int) + 1) = (k + 1 : Nat) := wrap_id (by omega) (by omega)
    by_cases hx : a[k] = b[k]
    · simp -dsimp [hk1, hk2, hx, ri]
      repeat' (first | omega | (simp -dsimp [E14, ri, cellp, ints, hk1, hk2, hx, w1]) | (refine Also.intro ?_ fun _ => ?_) | (refine Hold.intro fun _ => ?_) | (refine And.intro ?_ ?_))
      refine ⟨k + 1, tle_chain rfl ?_, HLe.refl _, ⟨hk1, fun i h1 h2 hi => ?_⟩, by omega⟩
      · simp [okAll, okv]
      · by_cases e : i = k
        · subst e; exact hx
        · exact he i h1 h2 (by omega)
    · have hne : ¬ a = b := fun e => hx (by simp [e])
      simp -dsimp [hk1, hk2, hx, ri]
      repeat' (first | omega | (simp -dsimp [E14, ri, cellp, ints, hk1, hk2, hx, w1, hne]) | (refine Also.intro ?_ fun _ => ?_) | (refine Hold.intro fun _ => ?_) | (refine And.intro ?_ ?_))
  · have hkb : ¬ k < b.length := by omega
    have heq : a = b := List.ext_getElem hl fun i h1 h2 => he i h1 h2 (by omega)
    simp -dsimp [hk1, hkb]
    repeat' (first | omega | (simp -dsimp [E14, ri, cellp, ints, hk1, hkb, heq]) | (refine Also.intro ?_ fun _ => ?_) | (refine Hold.intro fun _ => ?_) | (refine And.intro ?_ ?_))
theorem ok14 : FnOK Tryz.prog 14 (.pure sameS) := pure_fn (E := E14) rfl LOK.nil (ok := []) (fn := Tryz.f14) (by kernel_rfl) (by kernel_rfl) (by kernel_rfl) (by kernel_rfl) rfl (fun _ _ => by simp) b14
end
@[simp] def wrE (d : SuD) : List V := [.agg d.r.row, .sl 4 (d.l.map Wk.row), .agg [.int .i64 d.m, .sl 2 (d.pl.map cycV), .sl 2 (d.ch.map cycV)]]
theorem wrE_inj (a b : SuD) (h : wrE a = wrE b) : a = b := by
  obtain ⟨r, l, m, p, c⟩ := a; obtain ⟨r', l', m', p', c'⟩ := b
  simp only [wrE, List.cons.injEq, V.agg.injEq, V.sl.injEq, V.int.injEq, true_and, and_true] at h
  obtain ⟨h1, h2, h3, h4, h5⟩ := h
  rw [Reg.row_inj _ _ h1, map_inj Wk.row_inj h2, h3, cycV_inj h4, cycV_inj h5]
theorem suRe_len (r : Reg) (l : List Wk) (m : Int) (pl ch : List (Int × Int)) (hpl : pl.length ≤ 9223372036854775807) : (suRe r l m pl ch).length ≤ 9223372036854775807 := by
  unfold suRe
  split
  · have h1 := suSet_len ((opH r l).i.suOut m pl (explR 8 pl.length ch).2.1)
    have h2 := (opH r l).i.suOut_len m pl (explR 8 pl.length ch).2.1
    have h3 : (explR 8 pl.length ch).2.1.length ≤ pl.length := expl_len (S := 8)
    omega
  · simp
noncomputable abbrev lawPsS : PSpec := mkP wrE SuP fun _ => .bool true
noncomputable abbrev E4 : Env := { P := Tryz.prog, fn := tbl [(7, .pure suS), (11, .pure longS), (12, .pure worksS), (13, .pure suS), (14, .pure sameS)], own := [], key := 400, nt := 49 }
theorem b4 : PureBody E4 [] Tryz.f4 lawPsS := by
  refine pb ?_
  rintro ⟨r, l, m, pl, ch⟩ hsu
  have hfn := hsu.f
  have hl : l.length ≤ 9223372036854775807 := hfn.2.2.2
  have hz := suRe_len r l m pl ch hsu.p
  generalize hR : suRe r l m pl ch = R at *
  cases h : longB l
  · simp -dsimp [Tryz.f4, E4, Reg.row]
    repeat' (first | omega | (simp -dsimp [E4, ri, cellp, ints, wkE_dec, suE_dec', Reg.row, hl, h, hsu, hz, hR]) | (refine Also.intro ?_ fun _ => ?_) | (refine Hold.intro fun _ => ?_) | (refine And.intro ?_ ?_))
  · simp -dsimp [Tryz.f4, E4, Reg.row]
    repeat' (first | omega | (simp -dsimp [E4, ri, cellp, ints, wkE_dec, suE_dec', Reg.row, hl, h]) | (refine Also.intro ?_ fun _ => ?_) | (refine Hold.intro fun _ => ?_) | (refine And.intro ?_ ?_))
theorem ok4 : FnOK Tryz.prog 4 (.pure lawPsS) := pure_fn (E := E4) rfl (.cons ok7 (.cons ok11 (.cons ok12 (.cons ok13 (.cons ok14 .nil))))) (ok := []) (fn := Tryz.f4) (by kernel_rfl) (by kernel_rfl) (by kernel_rfl) (by kernel_rfl) rfl (fun _ _ => by simp) b4
end Go.Sx
end
section
/- Reading what a call is handed: data that can be read, as abstract values; the frame of a law that returns true. No conditions. -/
set_option linter.unusedSimpArgs false
namespace Go.Sx
open Go.RowKit
variable [Gls]

def tiles (P : Program) : List Field → Nat → Nat → Bool
  | [], o, n => o == n
  | fl :: r, o, n => fl.offset == o && tiles P r (o + P.cellsOf fl.type) n

/-- A type of plain data. -/
def plain (P : Program) : Nat → TypeId → Bool
  | 0, _ => false
  | f + 1, t => match P.underlying t with
    | some .bool => true
    | some (.int _) => true
    | some (.slice e) => decide (0 < P.cellsOf e) && plain P f e
    | some (.struct fs) => tiles P fs.toList 0 (P.cellsOf t) && fs.toList.all fun fl => plain P f fl.type
    | some (.array n e) => decide (n * P.cellsOf e = P.cellsOf t) && plain P f e
    | _ => false

/-- The cells' shape, by their type. -/
def tyV (P : Program) : Nat → TypeId → List V → Prop
  | 0, _, _ => False
  | f + 1, t, vs => match P.underlying t with
    | some .bool => ∃ b, vs = [.bool b]
    | some (.int k) => ∃ n, vs = [.int k n] ∧ (Lit.int k n).wf = true
    | some (.slice e) => ∃ els, vs = [.sl (P.cellsOf e) els] ∧ els.length ≤ maxLen ∧ els.length * P.bytesOf e ≤ reachBytes ∧ ∀ row ∈ els, tyV P f e row
    | some (.struct fs) => vs.length = P.cellsOf t ∧ ∀ fl ∈ fs.toList, tyV P f fl.type ((vs.drop fl.offset).take (P.cellsOf fl.type))
    | some (.array n e) => vs.length = P.cellsOf t ∧ ∀ i, i < n → tyV P f e ((vs.drop (i * P.cellsOf e)).take (P.cellsOf e))
    | _ => False

/-- Cells and what is known of them. -/
def CV (w : World) (vs : List V) (cs : List Value) : Prop := vs.length = cs.length ∧ ∀ i c, vs[i]? = some c → PV w (fun _ => False) c (cs.getD i und) ∧ (cs.getD i und).oneCell' = true

omit [Gls] in
theorem CV.nil (w : World) : CV w [] [] := ⟨rfl, fun i c h => by simp at h⟩
omit [Gls] in
theorem CV.append {w : World} {a b : List V} {x y : List Value} (h : CV w a x) (k : CV w b y) : CV w (a ++ b) (x ++ y) := by
  refine ⟨by simp [h.1, k.1], fun i c hc => ?_⟩
  rw [List.getElem?_append] at hc
  split at hc
  · rename_i hi
    have := h.2 i c hc
    rw [List.getD_eq_getElem?_getD, List.getElem?_append_left (by rw [← h.1]; exact hi), ← List.getD_eq_getElem?_getD]
    exact this
  · rename_i hi
    have := k.2 _ c hc
    rw [List.getD_eq_getElem?_getD, List.getElem?_append_right (by rw [← h.1]; omega), ← h.1, ← List.getD_eq_getElem?_getD]
    exact this
omit [Gls] in
theorem CV.one {w : World} {x : V} {v : Value} (h : PV w (fun _ => False) x v) (h1 : v.oneCell' = true) : CV w [x] [v] := by
  refine ⟨rfl, fun i c hc => ?_⟩
  cases i with
  | zero => simp at hc; subst hc; exact ⟨h, h1⟩
  | succ i => simp at hc

omit [Gls] in
theorem mapM_all {α β : Type} {f : α → Option β} : ∀ {l : List α} {ys : List β}, l.mapM f = some ys → ∀ x ∈ l, ∃ y, f x = some y
  | [], _, _, x, hx => by simp at hx
  | a :: l, ys, h, x, hx => by
    rw [List.mapM_cons] at h
    cases ha : f a with
    | none => simp [ha] at h
    | some b =>
      simp only [ha, Option.bind_eq_bind, Option.bind_some] at h
      cases hl : l.mapM f with
      | none => simp [hl] at h
      | some bs =>
        rcases List.mem_cons.1 hx with rfl | hx
        · exact ⟨b, ha⟩
        · exact mapM_all hl x hx

/-- No reading of these is heavier than memory. -/
def wOK {H : Type} (P : Program) (t : TypeId) (d : DataW H) : Prop := ∀ n ∈ d.weights P t, n ≤ reachBytes
omit [Gls] in
theorem wOK_each {α H : Type} {P : Program} {f : α → Option (DataW H × List MemPlace)} {ty : α → TypeId} : ∀ {l : List α} {ys : List (DataW H × List MemPlace)}, l.mapM f = some ys → (∀ n ∈ DataW.weightsEach P (l.map ty) (ys.map (·.1)), n ≤ reachBytes) → ∀ x ∈ l, ∃ y, f x = some y ∧ wOK P (ty x) y.1
  | [], _, _, _, x, hx => by simp at hx
  | a :: l, ys, h, hw, x, hx => by
    rw [List.mapM_cons] at h
    cases ha : f a with
    | none => simp [ha] at h
    | some b =>
      simp only [ha, Option.bind_eq_bind, Option.bind_some] at h
      cases hl : l.mapM f with
      | none => simp [hl] at h
      | some bs =>
        simp only [hl, Option.bind_some, Option.pure_def, Option.some.injEq] at h
        subst h
        simp only [List.map_cons, DataW.weightsEach, List.mem_append] at hw
        rcases List.mem_cons.1 hx with rfl | hx
        · exact ⟨b, ha, fun n hn => hw n (.inl hn)⟩
        · exact wOK_each hl (fun n hn => hw n (.inr hn)) x hx
omit [Gls] in
theorem wOK_all {H : Type} {P : Program} {e : TypeId} : ∀ {ds : List (DataW H)}, (∀ n ∈ DataW.weightsAll P e ds, n ≤ reachBytes) → ∀ d ∈ ds, wOK P e d
  | [], _, d, hd => by simp at hd
  | a :: ds, hw, d, hd => by
    simp only [DataW.weightsAll, List.mem_append] at hw
    rcases List.mem_cons.1 hd with rfl | hd
    · exact fun n hn => hw n (.inl hn)
    · exact wOK_all (fun n hn => hw n (.inr hn)) d hd
omit [Gls] in
theorem mapM_mem {α β : Type} {f : α → Option β} : ∀ {l : List α} {ys : List β}, l.mapM f = some ys → ∀ x ∈ l, ∃ y ∈ ys, f x = some y
  | [], _, _, x, hx => by simp at hx
  | a :: l, ys, h, x, hx => by
    rw [List.mapM_cons] at h
    cases ha : f a with
    | none => simp [ha] at h
    | some b =>
      simp only [ha, Option.bind_eq_bind, Option.bind_some] at h
      cases hl : l.mapM f with
      | none => simp [hl] at h
      | some bs =>
        simp only [hl, Option.bind_some, Option.pure_def, Option.some.injEq] at h
        subst h
        rcases List.mem_cons.1 hx with rfl | hx
        · exact ⟨b, by simp, ha⟩
        · obtain ⟨y, hy, e⟩ := mapM_mem hl x hx; exact ⟨y, by simp [hy], e⟩

section
variable {H : Type} {enc : TypeId × Value → H} {P : Program} {w : World} {base : Nat} {spare : Nat → Bool} {held : Bool}

omit [Gls] in
theorem struct_cells {f : Nat} {cs : List Value} (ih : ∀ (fl : Field), plain P f fl.type = true → ∀ (cs : List Value), (∃ fuel x, DataW.trod enc P w base spare held fuel fl.type cs = some x ∧ wOK P fl.type x.1) → cs.length = P.cellsOf fl.type → ∃ vs, CV w vs cs ∧ tyV P f fl.type vs) :
    ∀ (fs : List Field) (o n : Nat), tiles P fs o n = true → cs.length = n → o ≤ n → (∀ fl ∈ fs, plain P f fl.type = true ∧ ∃ fuel x, DataW.trod enc P w base spare held fuel fl.type ((cs.drop fl.offset).take (P.cellsOf fl.type)) = some x ∧ wOK P fl.type x.1) →
      ∃ vs, CV w vs (cs.drop o) ∧ (∀ fl ∈ fs, o ≤ fl.offset ∧ tyV P f fl.type ((vs.drop (fl.offset - o)).take (P.cellsOf fl.type)))
  | [], o, n, ht, hl, ho, _ => by
    simp only [tiles, beq_iff_eq] at ht
    refine ⟨[], ?_, by simp⟩
    rw [List.drop_eq_nil_of_le (by omega)]
    exact .nil w
  | fl :: fs, o, n, ht, hl, ho, hall => by
    simp only [tiles, Bool.and_eq_true, beq_iff_eq] at ht
    obtain ⟨rfl, ht⟩ := ht
    obtain ⟨hp, hr⟩ := hall fl (by simp)
    have hle : fl.offset + P.cellsOf fl.type ≤ n := by
      have : ∀ (fs : List Field) (o : Nat), tiles P fs o n = true → o ≤ n := by
        intro fs
        induction fs with
        | nil => intro o h; simp only [tiles, beq_iff_eq] at h; omega
        | cons g r ih2 => intro o h; simp only [tiles, Bool.and_eq_true, beq_iff_eq] at h; have := ih2 _ h.2; omega
      exact this fs _ ht
    have hlen : ((cs.drop fl.offset).take (P.cellsOf fl.type)).length = P.cellsOf fl.type := by simp; omega
    obtain ⟨v1, c1, t1⟩ := ih fl hp _ hr hlen
    obtain ⟨v2, c2, t2⟩ := struct_cells ih fs _ n ht hl hle (fun g hg => hall g (by simp [hg]))
    have hv1 : v1.length = P.cellsOf fl.type := by rw [c1.1, hlen]
    refine ⟨v1 ++ v2, ?_, fun g hg => ?_⟩
    · have := c1.append c2
      rwa [← List.drop_drop, List.take_append_drop] at this
    · rcases List.mem_cons.1 hg with rfl | hg
      · refine ⟨Nat.le_refl _, ?_⟩
        rw [Nat.sub_self, List.drop_zero, List.take_append_of_le_length (by omega), List.take_of_length_le (by omega)]
        exact t1
      · obtain ⟨h1, h2⟩ := t2 g hg
        refine ⟨by omega, ?_⟩
        rw [List.drop_append, List.drop_eq_nil_of_le (by omega), List.nil_append, hv1, show g.offset - fl.offset - P.cellsOf fl.type = g.offset - (fl.offset + P.cellsOf fl.type) by omega]
        exact h2

omit [Gls] in
theorem array_cells {f : Nat} {e : TypeId} {cs : List Value} (ih : ∀ (cs : List Value), (∃ fuel x, DataW.trod enc P w base spare held fuel e cs = some x ∧ wOK P e x.1) → cs.length = P.cellsOf e → ∃ vs, CV w vs cs ∧ tyV P f e vs) {n : Nat}
    (hl : cs.length = n * P.cellsOf e) (hall : ∀ i, i < n → ∃ fuel x, DataW.trod enc P w base spare held fuel e ((cs.drop (i * P.cellsOf e)).take (P.cellsOf e)) = some x ∧ wOK P e x.1) :
    ∀ k, k ≤ n → ∃ vs, CV w vs (cs.take (k * P.cellsOf e)) ∧ ∀ i, i < k → tyV P f e ((vs.drop (i * P.cellsOf e)).take (P.cellsOf e))
  | 0, _ => ⟨[], by simpa using CV.nil w, fun i h => by omega⟩
  | k + 1, hk => by
    obtain ⟨v1, c1, t1⟩ := array_cells ih hl hall k (by omega)
    have hlt : (k + 1) * P.cellsOf e ≤ n * P.cellsOf e := Nat.mul_le_mul_right _ hk
    rw [Nat.add_mul, Nat.one_mul] at hlt
    obtain ⟨v2, c2, t2⟩ := ih _ (hall k (by omega)) (by simp; omega)
    have hv1 : v1.length = k * P.cellsOf e := by rw [c1.1]; simp; omega
    have hv2 : v2.length = P.cellsOf e := by rw [c2.1]; simp; omega
    refine ⟨v1 ++ v2, ?_, fun i hi => ?_⟩
    · have := c1.append c2
      rw [Nat.add_mul, Nat.one_mul, List.take_add]
      exact this
    · by_cases hik : i < k
      · have h1 : (i + 1) * P.cellsOf e ≤ k * P.cellsOf e := Nat.mul_le_mul_right _ hik
        rw [Nat.add_mul, Nat.one_mul] at h1
        rw [List.drop_append_of_le_length (by omega), List.take_append_of_le_length (by simp; omega)]
        exact t1 i hik
      · have : i = k := by omega
        subst this
        rw [List.drop_append, List.drop_eq_nil_of_le (by omega), List.nil_append, hv1, Nat.sub_self, List.drop_zero, List.take_of_length_le (by omega)]
        exact t2

omit [Gls] in
theorem read_cells : ∀ (f : Nat) (t : TypeId) (cs : List Value), plain P f t = true → (∃ fuel x, DataW.trod enc P w base spare held fuel t cs = some x ∧ wOK P t x.1) → cs.length = P.cellsOf t → ∃ vs, CV w vs cs ∧ tyV P f t vs
  | 0, t, cs, hp, _, _ => by simp [plain] at hp
  | f + 1, t, cs, hp, ⟨fuel, x, hx, hwx⟩, hlen => by
    cases fuel with
    | zero => simp [DataW.trod] at hx
    | succ fuel =>
    simp only [plain] at hp
    cases hu : P.underlying t with
    | none => simp [hu] at hp
    | some u =>
    rw [hu] at hp
    simp only [tyV, hu]
    cases u <;> simp only at hp ⊢ <;> try (cases hp; done)
    case bool =>
      unfold DataW.trod at hx
      rw [hu] at hx
      split at hx <;> simp_all
      refine ⟨_, .one (.bool _) rfl, ?_⟩
      simp
    case int k =>
      unfold DataW.trod at hx
      rw [hu] at hx
      split at hx <;> simp_all
      obtain ⟨⟨rfl, h1⟩, _⟩ := hx
      exact ⟨_, .one (.int _ _) rfl, _, rfl, h1⟩
    case slice e =>
      simp only [Bool.and_eq_true, decide_eq_true_eq] at hp
      rcases DataW.trod_slice hu hx with ⟨rfl, rfl⟩ | ⟨a, len, cap, elems, rest, n, hn, rfl, rfl, hb, hl, hm, hlen2, hel, hsp, hns⟩
      · exact ⟨_, .one (.sl0 (P.cellsOf e) none 0) rfl, [], rfl, by simp, by simp, by simp⟩
      by_cases h0 : len = 0
      · subst h0
        exact ⟨_, .one (.sl0 (P.cellsOf e) (some a) cap) rfl, [], rfl, by simp, by simp, by simp⟩
      unfold wOK DataW.weights at hwx
      rw [hu] at hwx
      simp only [List.length_map, List.mem_cons, List.mem_append] at hwx
      have hbig := hwx _ (.inl rfl)
      have hbl : elems.length * P.bytesOf e ≤ reachBytes := Nat.le_trans (Nat.mul_le_mul_right _ (Nat.le_add_right _ _)) hbig
      have hwe : ∀ d ∈ elems.map (·.1), wOK P e d := wOK_all fun n hn => hwx n (.inr (.inl hn))
      have each : ∀ i, i < len → ∃ row vs, w.cells? base (a.add (i * P.cellsOf e)) (P.cellsOf e) = some row ∧ row.length = P.cellsOf e ∧ CV w vs row ∧ tyV P f e vs := by
        intro i hi
        have h1 := hel i hi
        have h2 : elems[i]? = some elems[i] := List.getElem?_eq_getElem (by omega)
        rw [h2, Option.bind_eq_some_iff] at h1
        obtain ⟨row, h3, h4⟩ := h1
        have h5 := (World.cells?_some h3).2.1
        obtain ⟨vs, c, ty⟩ := read_cells f e row hp.2 ⟨n, _, h4, hwe _ (List.mem_map.2 ⟨_, List.getElem_mem _, rfl⟩)⟩ h5
        exact ⟨row, vs, h3, h5, c, ty⟩
      obtain ⟨row0, _, g1, g2, _, _⟩ := each 0 (by omega)
      have hspot : a.spot = none := by
        have h3 := (World.cells?_some g1).2.2 0 hp.1
        simp only [Nat.zero_mul] at h3
        have h4 : row0[0]? = some row0[0] := List.getElem?_eq_getElem (by omega)
        have e0 : (a.add 0).add 0 = a := by simp [Addr.add]
        rw [h4, e0] at h3
        unfold World.cell? at h3
        split at h3
        · split at h3
          · cases h3
          · rename_i hs; simpa using hs
        · cases h3
      have hlt : a.block < w.heap.size := by
        have h3 := (World.cells?_some g1).2.2 0 hp.1
        simp only [Nat.zero_mul] at h3
        have h4 : row0[0]? = some row0[0] := List.getElem?_eq_getElem (by omega)
        have e0 : (a.add 0).add 0 = a := by simp [Addr.add]
        rw [h4, e0] at h3
        unfold World.cell? at h3
        split at h3
        · rename_i hh; exact (Array.getElem?_eq_some_iff.1 hh).1
        · cases h3
      have haddr : ∀ i j, (a.add (i * P.cellsOf e)).add j = ⟨a.block, a.off + i * P.cellsOf e + j, none⟩ := by
        intro i j
        obtain ⟨b, off, sp⟩ := a
        simp only at hspot
        subst hspot
        unfold Addr.add
        by_cases h1 : i * P.cellsOf e = 0
        · rw [if_pos h1]
          by_cases h2 : j = 0
          · rw [if_pos h2]; simp [h1, h2]
          · rw [if_neg h2]; simp [h1]
        · rw [if_neg h1]
          by_cases h2 : j = 0
          · rw [if_pos h2]; simp [h2]
          · rw [if_neg h2]
      -- the rows
      have rows : ∀ k, k ≤ len → ∃ els : List (List V), els.length = k ∧ ∀ i row, els[i]? = some row → tyV P f e row ∧ ∃ vs, w.cells? base (a.add (i * P.cellsOf e)) (P.cellsOf e) = some vs ∧ vs.length = P.cellsOf e ∧ CV w row vs := by
        intro k
        induction k with
        | zero => intro _; exact ⟨[], rfl, by simp⟩
        | succ k ih =>
          intro hk
          obtain ⟨els, h1, h2⟩ := ih (by omega)
          obtain ⟨row, vs, h3, h4, h5, h6⟩ := each k (by omega)
          refine ⟨els ++ [vs], by simp [h1], fun i r hr => ?_⟩
          rw [List.getElem?_append] at hr
          split at hr
          · exact h2 i r hr
          · rename_i hi
            have : i - els.length = 0 := by
              cases hd : i - els.length with
              | zero => rfl
              | succ m => rw [hd] at hr; simp at hr
            rw [this] at hr
            simp only [List.getElem?_cons_zero, Option.some.injEq] at hr
            subst hr
            have : i = k := by omega
            subst this
            exact ⟨h6, row, h3, h4, h5⟩
      obtain ⟨els, l1, l2⟩ := rows len (Nat.le_refl _)
      refine ⟨[.sl (P.cellsOf e) els], .one ?_ rfl, els, rfl, by omega, by rw [l1, ← hlen2]; exact hbl, fun row hrow => ?_⟩
      · have hcell : ∀ i j row c, els[i]? = some row → row[j]? = some c → ∃ u, w.cell? ⟨a.block, a.off + i * P.cellsOf e + j, none⟩ = some u ∧ u.oneCell' = true ∧ PV w (fun _ => False) c u := by
          intro i j row c hr hc
          obtain ⟨_, vs, k1, k2, k3⟩ := l2 i row hr
          obtain ⟨k4, k5⟩ := k3.2 j c hc
          have hj : j < P.cellsOf e := by have := (List.getElem?_eq_some_iff.1 hc).1; rw [k3.1, k2] at this; exact this
          have := (World.cells?_some k1).2.2 j hj
          rw [haddr, List.getElem?_eq_getElem (by omega)] at this
          refine ⟨_, this, ?_, ?_⟩
          · have e1 : vs.getD j und = vs[j] := by simp [List.getD, List.getElem?_eq_getElem (show j < vs.length by omega)]
            rw [← e1]; exact k5
          · have e1 : vs.getD j und = vs[j] := by simp [List.getD, List.getElem?_eq_getElem (show j < vs.length by omega)]
            rw [← e1]; exact k4
        have := PV.sl (w := w) (A := fun _ => False) (P.cellsOf e) els a.block a.off cap (fun i j => (w.cell? ⟨a.block, a.off + i * P.cellsOf e + j, none⟩).getD und) (by omega) hlt (fun h => h)
          (fun row hrow => by
            obtain ⟨i, hi⟩ := List.getElem?_of_mem hrow
            obtain ⟨_, vs, k1, k2, k3⟩ := l2 i row hi
            rw [k3.1, k2])
          (fun i j row c hr hc => by
            obtain ⟨u, k1, k2, k3⟩ := hcell i j row c hr hc
            rw [k1]; exact ⟨rfl, k2⟩)
          (fun i j row c hr hc => by
            obtain ⟨u, k1, k2, k3⟩ := hcell i j row c hr hc
            rw [k1]; exact k3)
        rw [l1] at this
        obtain ⟨b, off, sp⟩ := a
        simp only at hspot
        subst hspot
        exact this
      · obtain ⟨i, hi⟩ := List.getElem?_of_mem hrow
        exact (l2 i row hi).1
    case struct fs =>
      simp only [Bool.and_eq_true, List.all_eq_true] at hp
      unfold DataW.trod at hx
      rw [hu] at hx
      simp only at hx
      split at hx <;> try (simp_all; done)
      rename_i hl
      simp only [Option.map_eq_some_iff] at hx
      obtain ⟨ys, hys, rfl⟩ := hx
      unfold wOK DataW.weights at hwx
      rw [hu] at hwx
      simp only at hwx
      obtain ⟨vs, c, ty⟩ := struct_cells (f := f) (fun fl hfl cs h1 h2 => read_cells f fl.type cs hfl h1 h2) fs.toList 0 (P.cellsOf t) hp.1 hl (Nat.zero_le _) (fun fl hfl => ⟨hp.2 fl hfl, fuel, wOK_each hys hwx fl hfl⟩)
      rw [List.drop_zero] at c
      exact ⟨vs, c, by rw [c.1, hl], fun fl hfl => by simpa using (ty fl hfl).2⟩
    case array n e =>
      simp only [Bool.and_eq_true, decide_eq_true_eq] at hp
      unfold DataW.trod at hx
      rw [hu] at hx
      simp only at hx
      split at hx <;> try (simp_all; done)
      rename_i hl
      simp only [Option.map_eq_some_iff] at hx
      obtain ⟨ys, hys, rfl⟩ := hx
      unfold wOK DataW.weights at hwx
      rw [hu] at hwx
      simp only at hwx
      obtain ⟨vs, c, ty⟩ := array_cells (f := f) (e := e) (fun cs h1 h2 => read_cells f e cs hp.2 h1 h2) (n := n) (by rw [hl, hp.1]) (fun i hi => ⟨fuel, by
        obtain ⟨y, hy, ey⟩ := mapM_mem hys i (by simpa using hi)
        exact ⟨y, ey, wOK_all hwx _ (List.mem_map.2 ⟨y, hy, rfl⟩)⟩⟩) n (Nat.le_refl _)
      rw [List.take_of_length_le (by rw [hl, hp.1]; exact Nat.le_refl _)] at c
      exact ⟨vs, c, by rw [c.1, hl], ty⟩
end

omit [Gls] in
theorem rows_map {α : Type} {R : α → List V} : ∀ {els : List (List V)}, (∀ row ∈ els, ∃ a, row = R a) → ∃ l : List α, els = l.map R
  | [], _ => ⟨[], rfl⟩
  | r :: els, h => by
    obtain ⟨a, ha⟩ := h r (by simp)
    obtain ⟨l, hl⟩ := rows_map (els := els) (fun row hr => h row (by simp [hr]))
    exact ⟨a :: l, by simp [ha, hl]⟩

/-- An argument's shape, by its type. -/
def argTy (P : Program) (g : Nat) (t : TypeId) (x : V) : Prop := if isAg P t = true then ∃ vs, x = .agg vs ∧ tyV P g t vs else tyV P g t [x]

def argB (P : Program) (g : Nat) (t : TypeId) : Bool := plain P g t && (isAg P t || P.cellsOf t == 1) && P.readableRec t && decide (t < P.types.size)

section
variable {H : Type} {enc : TypeId × Value → H} {P : Program} {w : World} {spare : Nat → Bool} {held : Bool}

omit [Gls] in
theorem arg_read {g : Nat} {t : TypeId} {v : Value} {d : DataW H} {ps : List MemPlace} {r : Reach} {b0 : Nat} (hb : argB P g t = true) (hok : Value.okWide P w r b0 t v) (hd : DataW.Trod enc P w 0 spare held t v d ps) (hwx : wOK P t d) :
    ∃ x, PV w (fun _ => False) x v ∧ argTy P g t x := by
  simp only [argB, Bool.and_eq_true, Bool.or_eq_true, beq_iff_eq] at hb
  obtain ⟨⟨⟨hp, hc⟩, _⟩, _⟩ := hb
  obtain ⟨fuel, hx⟩ := hd
  by_cases ha : isAg P t = true
  · have : ∃ cs, v = .agg cs ∧ cs.size = P.cellsOf t := by
      unfold Value.okWide at hok
      unfold isAg at ha
      cases hu : P.underlying t with
      | none => simp [hu] at ha
      | some u =>
        rw [hu] at hok ha
        cases u <;> simp at ha hok
        · obtain ⟨cs, h1, h2, _⟩ := hok; exact ⟨cs, h1, h2⟩
        · obtain ⟨cs, h1, h2, _⟩ := hok; exact ⟨cs, h1, h2⟩
    obtain ⟨cs, rfl, hs⟩ := this
    obtain ⟨vs, c, ty⟩ := read_cells g t cs.toList hp ⟨fuel, _, hx, hwx⟩ (by simpa using hs)
    refine ⟨.agg vs, .agg vs cs (by simpa using c.1.symm) fun i x hi => ?_, ?_⟩
    · have := (c.2 i x hi).1
      simpa [Array.getD_eq_getD_getElem?, List.getD_eq_getElem?_getD] using this
    · unfold argTy; rw [if_pos ha]; exact ⟨vs, rfl, ty⟩
  · have hc1 : P.cellsOf t = 1 := by rcases hc with h | h; exact absurd h ha; exact h
    have hv : v.cells.toList = [v] := by
      have hna : ∀ cs, v ≠ .agg cs := by
        rintro cs rfl
        unfold Value.okWide at hok
        unfold isAg at ha
        cases hu : P.underlying t with
        | none => cases g <;> simp [plain, hu] at hp
        | some u =>
          rw [hu] at hok ha
          cases u <;> simp [Cell.okWide, Cell.ok, hu] at ha hok
      cases v <;> first | rfl | exact absurd rfl (hna _)
    rw [hv] at hx
    obtain ⟨vs, c, ty⟩ := read_cells g t [v] hp ⟨fuel, _, hx, hwx⟩ (by simp [hc1])
    have hl := c.1
    cases vs with
    | nil => simp at hl
    | cons x r =>
      have : r = [] := List.eq_nil_of_length_eq_zero (by simpa using hl)
      subst this
      refine ⟨x, by simpa using (c.2 0 x rfl).1, ?_⟩
      unfold argTy; rw [if_neg ha]; exact ty

omit [Gls] in
theorem args_read {g : Nat} {r : Reach} {b0 : Nat} : ∀ (ts : List TypeId) (vs : List Value) (ds : List (DataW H)) (ps : List MemPlace), DataW.TrodAll enc P w 0 spare held ts vs ds ps → (∀ n ∈ DataW.weightsEach P ts ds, n ≤ reachBytes) → (∀ (j : Nat) t v, ts[j]? = some t → vs[j]? = some v → Value.okWide P w r b0 t v) →
    (ts.all (argB P g)) = true → vs.length = ts.length ∧ ds.length = ts.length ∧ ∃ xs : List V, xs.length = ts.length ∧ (∀ (i : Nat) t x, ts[i]? = some t → xs[i]? = some x → argTy P g t x) ∧ ∀ (i : Nat) x, xs[i]? = some x → PV w (fun _ => False) x (vs.getD i und)
  | [], [], [], ps, _, _, _, _ => ⟨rfl, rfl, [], rfl, by simp, by simp⟩
  | t :: ts, v :: vs, d :: ds, ps, h, hwt, hok, hb => by
    obtain ⟨p, q, h1, h2, _⟩ := h
    simp only [DataW.weightsEach, List.mem_append] at hwt
    simp only [List.all_cons, Bool.and_eq_true] at hb
    obtain ⟨x, hx, hty⟩ := arg_read hb.1 (hok 0 t v rfl rfl) h1 (fun n hn => hwt n (.inl hn))
    obtain ⟨e1, e2, xs, e3, e4, e5⟩ := args_read ts vs ds q h2 (fun n hn => hwt n (.inr hn)) (fun j t v ht hv => hok (j + 1) t v (by simpa using ht) (by simpa using hv)) hb.2
    refine ⟨by simp [e1], by simp [e2], x :: xs, by simp [e3], ?_, ?_⟩
    · intro i t' x' ht hx'
      cases i with
      | zero => simp at ht hx'; subst ht hx'; exact hty
      | succ i => exact e4 i t' x' (by simpa using ht) (by simpa using hx')
    · intro i x' hx'
      cases i with
      | zero => simp at hx'; subst hx'; simpa using hx
      | succ i => simpa using e5 i x' (by simpa using hx')
  | [], _ :: _, _, _, h, _, _, _ => h.elim
  | [], [], _ :: _, _, h, _, _, _ => h.elim
  | _ :: _, [], _, _, h, _, _, _ => h.elim
  | _ :: _, _ :: _, [], _, h, _, _, _ => h.elim

omit [Gls] in
theorem args_below {g : Nat} {w' : World} (hl : laidOutB P = true) (hb : Below w.heap.size w w') : ∀ (ts : List TypeId) (vs : List Value) (ds : List (DataW H)) (ps : List MemPlace), DataW.TrodAll enc P w 0 (fun _ => true) true ts vs ds ps → (ts.all (argB P g)) = true → (∀ x ∈ ps, x.block < w.heap.size) →
    DataW.TrodAll enc P w' 0 (fun b => decide (b < w.heap.size)) true ts vs ds ps
  | [], [], [], ps, h, _, _ => h
  | t :: ts, v :: vs, d :: ds, ps, h, ha, hlt => by
    obtain ⟨p, q, h1, h2, rfl⟩ := h
    simp only [List.all_cons, Bool.and_eq_true] at ha
    have h3 := ha.1
    simp only [argB, Bool.and_eq_true, decide_eq_true_eq] at h3
    exact ⟨p, q, Below.trod hl h3.1.2 h3.2 h1 hb (fun x hx => hlt x (by simp [hx])), args_below hl hb ts vs ds q h2 ha.2 (fun x hx => hlt x (by simp [hx])), rfl⟩
  | [], _ :: _, _, _, h, _, _ => h.elim
  | [], [], _ :: _, _, h, _, _ => h.elim
  | _ :: _, [], _, _, h, _, _ => h.elim
  | _ :: _, _ :: _, [], _, h, _, _ => h.elim

end

/-- A law: whatever it is handed, it returns true, and all that was there is as it was. -/
theorem law_lifted {C : Checked} {os : Os} (started : os.Started) {H : Type} {enc : TypeId × Value → H} {f : FuncId} {fn : Func} {s : ChangeSpec} {S : PSpec} (g : Nat) (tb : TypeId)
    (hG0 : ∀ g, Gls.G g = none) (hown : ownKnob C.prog.godebug = none) (hl : laidOutB C.prog = true) (hin : C.prog.inits.idxOf? f = none) (hf : C.prog.funcs[f]? = some fn) (hOK : FnOK C.prog f (.pure S))
    (hvars : s.vars = []) (hspec : ∀ ds : List (DataW H), ds.length = fn.params.size → s.fn H ds = { results := [.lit (.bool true)], args := ds })
    (hrt : fn.resultTypes = #[tb]) (htb : C.prog.underlying tb = some .bool) (hpl : fn.params.toList.all (argB C.prog g) = true)
    (hopen : ∀ xs : List V, xs.length = fn.params.size → (∀ (i : Nat) t x, fn.params.toList[i]? = some t → xs[i]? = some x → argTy C.prog g t x) → ∃ d, S.pre d ∧ S.res d = .bool true ∧ S.enc d = xs)
    (witness : ∃ (w : World) (tape : Tape) (i : Input), w.os = os ∧ (w.forCall tape i).Shaped C.prog ∧ i.vars = [] ∧ Input.okWide C.prog (w.forCall tape i) .any w.heap.size f i ∧
      s.pre6 enc C.prog fn [] false (w.forCall tape i).memory i.args ∧ ({} : Assume).holds C.prog (lone (Frame.enter C.prog f i.args .normal) [] (w.forCall tape i))) :
    ReturnsInHanded {} C os f .any (s.pre6 enc C.prog fn [] false) (s.post enc C.prog fn false true false false) := by
  refine returnsInHanded_of_change_sized hown started hin hf witness ?_
  intro W base args ds gs before hval hW _ hwt _
  have hW' := hW
  obtain ⟨p, q, hA, hV, rfl, hfz, hnd⟩ := hW
  rw [hvars] at hV
  have hgs : gs = [] ∧ q = [] := by
    cases gs with
    | nil => exact ⟨rfl, hV⟩
    | cons a b => exact hV.elim
  obtain ⟨rfl, rfl⟩ := hgs
  rw [show s.plain.varTypes C.prog = [] by unfold ChangeSpec.plain DataSpec.varTypes; simp [hvars], List.append_nil, List.append_nil, List.all_eq_true] at hwt
  obtain ⟨e1, e2, xs, e3, e4, e5⟩ := args_read (g := g) _ _ _ _ hA (fun n hn => by simpa using hwt n hn) (fun j t v ht hv => hval j t v (by simpa using ht) (by simpa using hv)) hpl
  obtain ⟨d, hd1, hd2, hd3⟩ := hopen xs (by simpa using e3) e4
  refine ((hOK.pure S rfl) d hd1 W (fun _ => False) args (fun g v hg => by rw [hG0] at hg; cases hg) (fun _ h => h.elim) (by rw [hd3, e3]; simpa using e1) (fun i c hc => ?_)).mono fun e W' hres => ?_
  · rw [hd3] at hc
    have := e5 i c hc
    simpa [Array.getD_eq_getD_getElem?, List.getD_eq_getElem?_getD] using this
  obtain ⟨v, rfl, hb, hv⟩ := hres
  rw [hd2] at hv
  cases hv
  refine ⟨_, rfl, ds, [], p ++ [], [], p, [], hW', ?_, ?_, ?_, hb.frame _, fun h => by cases h⟩
  · rw [hrt]
    have h1 : s.fn H (ds ++ []) = { results := [.lit (.bool true)], args := ds } := by rw [List.append_nil]; exact hspec ds (by simpa using e2)
    rw [h1]
    exact ⟨[], [], shut_bool htb true, rfl, rfl⟩
  · have h1 : s.fn H (ds ++ []) = { results := [.lit (.bool true)], args := ds } := by rw [List.append_nil]; exact hspec ds (by simpa using e2)
    rw [h1]
    exact args_below hl hb _ _ _ _ hA hpl (fun x hx => hW'.lt x (by simpa using hx))
  · rw [hvars]
    have h1 : s.fn H (ds ++ []) = { results := [.lit (.bool true)], args := ds } := by rw [List.append_nil]; exact hspec ds (by simpa using e2)
    rw [h1]
    exact rfl
end Go.Sx
end
