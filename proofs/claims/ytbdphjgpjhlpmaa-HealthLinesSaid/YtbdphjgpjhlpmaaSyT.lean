/- HealthSlopes: the median of fractions. No conditions. -/
import Derived.Test.YtbdphjgpjhlpmaaSyS
import Derived.Test.YtbdphjgpjhlpmaaSyL
set_option linter.unusedSimpArgs false
set_option linter.unusedVariables false
set_option maxRecDepth 100000
set_option maxHeartbeats 1000000
namespace Go.Sx
open Go.Proofs

noncomputable def medF (l : List Frc) : Frc := (frSrt l.toArray).toList.getD ((l.length - 1) / 2) default
noncomputable def medB (B : Blk) : Blk := { B with els := (frSrt (B.els.map (unR frL)).toArray).toList.map (intR frL) }
def resB (x : Frc) : Blk := { z := 2, els := [intR frL x], ty := 35 }
noncomputable def medS : HSpec where
  go args h := match args with
    | [.bsl s i n] => match hget h s i with
      | some B => ⟨B.fz = false ∧ B.z = 2 ∧ B.ty = 35 ∧ n = B.els.length ∧ 1 ≤ n ∧ n < 4611686018427387904 ∧ ∃ d : List Frc, B.els = d.map (intR frL), .agg (intR frL (medF (B.els.map (unR frL)))), hpush (hset h s i (medB B)) 2502 (resB (medF (B.els.map (unR frL))))⟩
      | none => ⟨False, .top, h⟩
    | _ => ⟨False, .top, h⟩
theorem hset_push_old {h : Hp} {s i k : Nat} {B0 B1 : Blk} (hi : i < hnext h s) (hb : (h s).base ≤ i) : hset (hpush h k B0) s i B1 = hpush (hset h s i B1) k B0 := by
  funext s'
  unfold hset hpush
  by_cases h1 : s' = s
  · subst h1
    by_cases h2 : s' = k
    · subst h2
      simp only [if_true]
      rw [List.set_append_left _ _ (by unfold hnext at hi; omega)]
    · simp [h2, Ne.symm h2]
  · by_cases h2 : s' = k
    · subst h2; simp [h1]
    · simp [h1, h2]
theorem med_inv {args : List V} {h : Hp} (hc : (medS.go args h).c) : ∃ s i n B, ∃ d : List Frc, args = [.bsl s i n] ∧ hget h s i = some B ∧ B.fz = false ∧ B.z = 2 ∧ B.ty = 35 ∧ n = d.length ∧ 1 ≤ n ∧ n < 4611686018427387904 ∧ B.els = d.map (intR frL) ∧
    (medS.go args h).v = .agg (intR frL (medF d)) ∧ (medS.go args h).h = hpush (hset h s i { B with els := (frSrt d.toArray).toList.map (intR frL) }) 2502 (resB (medF d)) := by
  match args, hc with
  | [], hc => exact hc.elim
  | x :: y :: r, hc => cases x <;> exact hc.elim
  | [x], hc =>
    cases x with
    | bsl s i n =>
      cases hB : hget h s i with
      | none => simp [medS, hB] at hc
      | some B =>
        have hgo : medS.go [.bsl s i n] h = ⟨B.fz = false ∧ B.z = 2 ∧ B.ty = 35 ∧ n = B.els.length ∧ 1 ≤ n ∧ n < 4611686018427387904 ∧ ∃ d : List Frc, B.els = d.map (intR frL), .agg (intR frL (medF (B.els.map (unR frL)))), hpush (hset h s i (medB B)) 2502 (resB (medF (B.els.map (unR frL))))⟩ := by simp only [medS, hB]
        rw [hgo] at hc ⊢
        obtain ⟨c1, c2, c3, c4, c5, c6, d, hd⟩ := hc
        have hun : B.els.map (unR frL) = d := by
          rw [hd, List.map_map]
          have : (unR frL ∘ intR frL) = id := funext fun x => unR_R frL_inj x
          rw [this, List.map_id]
        refine ⟨s, i, n, B, d, rfl, hB, c1, c2, c3, by rw [c4, hd, List.length_map], c5, c6, hd, ?_, ?_⟩
        · simp only [hun]
        · simp only [medB, hun]
    | _ => exact hc.elim
theorem sort_go {h : Hp} {s i n : Nat} {B : Blk} {d : List Frc} (hB : hget h s i = some B) (c1 : B.fz = false) (c2 : B.z = 2) (c3 : B.ty = 35) (c4 : n = d.length) (c5 : 1 ≤ n) (c6 : n < 4611686018427387904) (hd : B.els = d.map (intR frL)) :
    frSortS.go [.bsl s i n, .fn 39 []] h = ⟨True, .tup [], hset h s i { B with els := (frSrt d.toArray).toList.map (intR frL) }⟩ := by
  have hun : B.els.map (unR frL) = d := by
    rw [hd, List.map_map]
    have : (unR frL ∘ intR frL) = id := funext fun x => unR_R frL_inj x
    rw [this, List.map_id]
  simp only [frSortS, sortS, hB, hun]
  congr 1
  exact eq_true ⟨trivial, c1, c2, c3, by rw [c4, hd, List.length_map], c5, c6, d, hd⟩
theorem frSrt_len (d : List Frc) : (frSrt d.toArray).toList.length = d.length := by
  have := (frSrt_spec d.toArray).1.1
  simpa using this
noncomputable abbrev E25 : Env := { P := Try.prog, fn := tbl [(38, .heap frSortS)], own := [], key := 2500, nt := 12 }
theorem b25 : HeapBody E25 [] Try.f25 medS := by
  intro args h hc
  obtain ⟨s, i, n, B, d, rfl, hB, c1, c2, c3, c4, c5, c6, hd, hv, hh⟩ := med_inv hc
  rw [hv, hh]
  clear hv hh hc
  obtain ⟨z, els, ty, fz, cl⟩ := B
  simp only at c1 c2 c3 hd
  subst c1 c2 c3 hd
  simp only at hB ⊢
  have hi := hget_lt hB
  have hb := hget_base hB
  have hB' : ∀ X, hget (hpush h 2502 X) s i = some { z := 2, els := d.map (intR frL), ty := 35, cl := cl } := fun X => (hget_push_old h 2502 s i X (fun e => by subst e; omega)).trans hB
  have hgo : ∀ X, frSortS.go [.bsl s i n, .fn 39 []] (hpush h 2502 X) = ⟨True, .tup [], hpush (hset h s i { z := 2, els := (frSrt d.toArray).toList.map (intR frL), ty := 35, cl := cl }) 2502 X⟩ := fun X => by
    rw [sort_go (hB' X) rfl rfl rfl c4 c5 c6 rfl, hset_push_old hi hb]
  have hB1 : ∀ X, hget (hpush (hset h s i { z := 2, els := (frSrt d.toArray).toList.map (intR frL), ty := 35, cl := cl }) 2502 X) s i = some { z := 2, els := (frSrt d.toArray).toList.map (intR frL), ty := 35, cl := cl } := fun X =>
    (hget_push_old _ 2502 s i X (fun e => by rw [hnext_set]; subst e; omega)).trans (hget_set_same hB)
  have hn0 : hnext (hset h s i { z := 2, els := (frSrt d.toArray).toList.map (intR frL), ty := 35, cl := cl }) 2502 = hnext h 2502 := hnext_set ..
  have hpn := fun X => hget_push_new (hset h s i { z := 2, els := (frSrt d.toArray).toList.map (intR frL), ty := 35, cl := cl }) 2502 X
  rw [hn0] at hpn
  have hsp := fun X Y => hset_push (hset h s i { z := 2, els := (frSrt d.toArray).toList.map (intR frL), ty := 35, cl := cl }) 2502 X Y
  rw [hn0] at hsp
  have hlen := frSrt_len d
  have hm : (n - 1) / 2 < (frSrt d.toArray).toList.length := by omega
  have hmed : medF d = (frSrt d.toArray).toList[(n - 1) / 2] := by
    rw [medF, ← c4]; simp [List.getD, List.getElem?_eq_getElem hm]
  have w1 : IntKind.wrap .i64 ((n : Int) - 1) = (n - 1 : Nat) := by rw [wrap_id (by omega) (by omega)]; omega
  have w2 : ((n - 1 : Nat) : Int).tdiv 2 = ((n - 1) / 2 : Nat) := by rw [show (2 : Int) = ((2 : Nat) : Int) from rfl, ← Int.ofNat_tdiv]
  have w3 : IntKind.wrap .i64 (((n - 1) / 2 : Nat) : Int) = ((n - 1) / 2 : Nat) := wrap_id (by omega) (by omega)
  generalize hS : (frSrt d.toArray).toList = S at *
  have hSn : S.length = n := by omega
  rw [hmed]
  generalize hq : (n - 1) / 2 = q at *
  have hq1 : (q : Int) < n := by omega
  have hSq : S[q]? = some S[q] := List.getElem?_eq_getElem hm
  simp -dsimp [Try.f25, E25]
  repeat' (first | omega | (simp -dsimp [E25, ri, cellp, ints, hgo, hB1, hn0, hpn, hsp, hSn, w1, w2, w3, hq1, hSq, intR, frL, resB, hm]) | (refine Also.intro ?_ fun _ => ?_) | (refine Hold.intro fun _ => ?_) | (refine And.intro ?_ ?_))
theorem ok25 : FnOK Try.prog 25 (.heap medS) := heap_fn (E := E25) rfl (.cons ok38 .nil) (ok := []) (fn := Try.f25) (by kernel_rfl) (by kernel_rfl) (by kernel_rfl) (by kernel_rfl) rfl (fun args h hc => by obtain ⟨_, _, _, _, _, rfl, _⟩ := med_inv hc; simp) b25
end Go.Sx

