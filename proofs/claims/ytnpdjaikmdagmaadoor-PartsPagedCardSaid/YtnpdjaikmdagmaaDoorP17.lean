/- A part of a proof; no conditions. -/
import Derived.Test.YtnpdjaikmdagmaaDoorP16
set_option linter.unusedSimpArgs false
set_option linter.unusedVariables false
set_option linter.unusedSectionVars false
section
/- Parts: a flight. No conditions. -/
set_option linter.unusedSimpArgs false
set_option linter.unusedSectionVars false
set_option maxRecDepth 100000
set_option maxHeartbeats 2000000
namespace Go.Sx
open Go.Proofs
attribute [local irreducible] HLe
attribute [local simp] hps_app

def sinceTo (iss : List Bool) (hrs : Int) (l : List Int) : Nat → List Int
  | 0 => l
  | i + 1 => if iss.getD i false = true then (sinceTo iss hrs l i).set i (wadd ((sinceTo iss hrs l i).getD i 0) hrs) else sinceTo iss hrs l i
theorem sinceTo_len (iss : List Bool) (hrs : Int) (l : List Int) : ∀ i, (sinceTo iss hrs l i).length = l.length
  | 0 => rfl
  | i + 1 => by simp only [sinceTo]; split <;> simp [sinceTo_len iss hrs l i]
def flyP (iss : List Bool) (m hrs cyc : Int) (p : PS) : PS := if p.a = m then { p with hours := wadd p.hours hrs, cycles := wadd p.cycles cyc, since := sinceTo iss hrs p.since iss.length } else p
def HG.flyOk (s : HG) (m hrs cyc : Int) : Bool := s.i.machine m && (withinB hrs 0 100 && (withinB cyc 0 100 && decide (hrs ≤ s.i.longest m cyc)))
def HG.flyDo (s : HG) (m hrs cyc : Int) : HG := { s with ps := s.ps.map (flyP s.iss m hrs cyc), fl := s.fl.set m.toNat (wadd (s.fl.getD m.toNat (0, 0)).1 hrs, wadd (s.fl.getD m.toNat (0, 0)).2 cyc) }
structure N3 where
  a : Int
  b : Int
  c : Int
@[simp] def n3E (_ : HG) (d : N3) : List V := [.bptr 6019 0 1 0 0, .int .i64 d.a, .int .i64 d.b, .int .i64 d.c]
theorem n3E_inj (s : HG) (d d' : N3) (h : n3E s d = n3E s d') : d = d' := by
  obtain ⟨a, b, c⟩ := d; obtain ⟨a', b', c'⟩ := d'; simp at h; simp [h]
noncomputable abbrev flyS : HSpec := obS hgL hkeys n3E (fun s _ _ => s.Ok) (fun s d _ => .bool (s.flyOk d.a d.b d.c)) (fun s d => if s.flyOk d.a d.b d.c = true then s.flyDo d.a d.b d.c else s) fun _ _ h => h
theorem fly_go (s : HG) (a b c : Int) (h : Hp) : flyS.go [.bptr 6019 0 1 0 0, .int .i64 a, .int .i64 b, .int .i64 c] (Ob hgL s h) = ⟨s.Ok, .bool (s.flyOk a b c), Ob hgL (if s.flyOk a b c = true then s.flyDo a b c else s) (Ob hgL s h)⟩ :=
  obS_go hgL_keys hgL_inj n3E_inj s ⟨a, b, c⟩ h
theorem hmE_dec' (x : HI) (m c : Int) : decC hmE [.ip 9 [[.sl 3 (x.r.kinds.map Kd.row), .sl 4 (x.r.parts.map Pt.row), .int .i64 x.r.machines, .sl 2 (x.r.orders.map Od.row), ptsI x.ps, .sl 1 (x.iss.map rb), x.v1, x.v2, x.v3]] 0 0, .int .i64 m, .int .i64 c] = (x, m, c) := hmE_dec x m c
/-- The parts, the first k of them flown. -/
def flyT (f : PS → PS) (l : List PS) (k : Nat) : List PS := (l.take k).map f ++ l.drop k
theorem flyT_len (f : PS → PS) (l : List PS) (k : Nat) : (flyT f l k).length = l.length := by simp [flyT]; omega
theorem flyT_get (f : PS → PS) (l : List PS) {k : Nat} {p : PS} (h : l[k]? = some p) : (flyT f l k)[k]? = some p := by
  have hk := (List.getElem?_eq_some_iff.1 h).1
  have : min k l.length = k := by omega
  simp [flyT, List.getElem?_append, this, h]
theorem flyT_set (f : PS → PS) (l : List PS) {k : Nat} {p : PS} (h : l[k]? = some p) : (flyT f l k).set k (f p) = flyT f l (k + 1) := by
  obtain ⟨hk, he⟩ := List.getElem?_eq_some_iff.1 h
  have : min k l.length = k := by omega
  rw [flyT, flyT, List.drop_eq_getElem_cons hk, he, List.take_add_one, h]
  simp [List.set_append, this]
noncomputable abbrev E94 : Env := { P := Tryd.prog, fn := tbl [(38, .pure machineS), (37, .pure withinS), (50, .pure longestS)], own := [], key := 9400, nt := 121 }
theorem b94 : HeapBody E94 [] Tryd.f94 flyS := by
  intro args h hc
  obtain ⟨s, ⟨m, hrs, cyc⟩, hh, rfl, hok, hgo⟩ := obS_inv hgL_keys hc
  rw [hgo]
  clear hgo hc
  obtain ⟨h0, rfl⟩ : ∃ h0, h = Ob hgL s h0 := ⟨h, hh⟩
  clear hh
  have hk := hok.hok
  cases c1 : s.i.machine m
  · have hf : s.flyOk m hrs cyc = false := by simp [HG.flyOk, c1]
    simp -dsimp [Tryd.f94, E94, -lendN, -lend1]
    repeat' (first | omega | (simp -dsimp [E94, ri, cellp, ints, -lendN, -lend1, hk, HI.v, hiE_dec', c1, hf, hle_refl]) | (refine Also.intro ?_ fun _ => ?_) | (refine Hold.intro fun _ => ?_) | (refine And.intro ?_ ?_))
  cases c2 : withinB hrs 0 100
  · have hf : s.flyOk m hrs cyc = false := by simp [HG.flyOk, c1, c2]
    simp -dsimp [Tryd.f94, E94, -lendN, -lend1]
    repeat' (first | omega | (simp -dsimp [E94, ri, cellp, ints, -lendN, -lend1, hk, HI.v, hiE_dec', c1, c2, hf, hle_refl]) | (refine Also.intro ?_ fun _ => ?_) | (refine Hold.intro fun _ => ?_) | (refine And.intro ?_ ?_))
  cases c3 : withinB cyc 0 100
  · have hf : s.flyOk m hrs cyc = false := by simp [HG.flyOk, c1, c2, c3]
    simp -dsimp [Tryd.f94, E94, -lendN, -lend1]
    repeat' (first | omega | (simp -dsimp [E94, ri, cellp, ints, -lendN, -lend1, hk, HI.v, hiE_dec', c1, c2, c3, hf, hle_refl]) | (refine Also.intro ?_ fun _ => ?_) | (refine Hold.intro fun _ => ?_) | (refine And.intro ?_ ?_))
  have hsm := hok.small
  have hfit : ∀ p ∈ s.i.ps, s.i.Fit p := hok.fit
  by_cases c4 : hrs ≤ s.i.longest m cyc
  case neg =>
    have hf : s.flyOk m hrs cyc = false := by simp [HG.flyOk, c1, c2, c3, c4]
    have c4' : s.i.longest m cyc < hrs := by omega
    simp -dsimp [Tryd.f94, E94, -lendN, -lend1]
    repeat' (first | omega | (simp -dsimp [E94, ri, cellp, ints, -lendN, -lend1, hk, HI.v, hiE_dec', hmE_dec', c1, c2, c3, c4', hsm, hfit, hf, hle_refl]) | (refine Also.intro ?_ fun _ => ?_) | (refine Hold.intro fun _ => ?_) | (refine And.intro ?_ ?_))
  have c4' : ¬ s.i.longest m cyc < hrs := by omega
  have hf : s.flyOk m hrs cyc = true := by simp [HG.flyOk, c1, c2, c3, c4]
  have hml : (s.r.machines : Int) ≤ 1000 := hok.m1
  have hfl := hok.fl
  obtain ⟨mi, rfl, hmi⟩ : ∃ k : Nat, m = k ∧ k < s.fl.length := by
    have := withinB_nat (n := m) (m := s.fl.length) (by omega) (by rw [hfl]; exact c1)
    exact this
  have hps := hok.ps
  simp -dsimp [Tryd.f94, E94, -lendN, -lend1]
  repeat' (first | omega | (simp -dsimp [E94, ri, cellp, ints, -lendN, -lend1, hk, HI.v, hiE_dec', hmE_dec', c1, c2, c3, c4', hsm, hfit, hf]) | (refine Also.intro ?_ fun _ => ?_) | (refine Hold.intro fun _ => ?_) | (refine And.intro ?_ ?_))
  refine awp_loop [40, 41, 42, 10, 43, 44, 45, 46, 47, 48, 49, 50, 51, 52, 53, 54, 55, 56, 57, 58, 59, 60, 61, 62, 63, 64, 65, 66, 67, 68, 69, 70, 71, 72, 73, 74, 75, 76, 77, 11, 78, 79, 80, 81, 82, 83, 84, 85, 86, 87, 88, 89, 90, 91, 92, 93, 94, 95, 96, 39] (fun k : Fin (s.ps.length + 1) => [(39, (true, .int .i64 (k.1 : Nat)))]) (fun k => Ob hgL { s with ps := flyT (flyP s.iss mi hrs cyc) s.ps k.1 } h0) (fun k => s.ps.length - k.1) ⟨0, by omega⟩ ?_ ?_ ?_
  · simp [okAll, okv]
  · exact HLe.of_eq (by simp [flyT])
  rintro ⟨k, hkk⟩
  simp only
  by_cases hk1 : k < s.ps.length
  · have hki : (k : Int) < s.ps.length := by omega
    have wk : IntKind.wrap .i64 ((k : Int) + 1) = (k + 1 : Nat) := wrap_id (by omega) (by omega)
    obtain ⟨p, hp, hp'⟩ := get_ex hk1
    have hpf := hok.fit p (hp' ▸ List.getElem_mem hk1)
    have hTl := flyT_len (flyP s.iss mi hrs cyc) s.ps k
    have hTg := flyT_get (flyP s.iss mi hrs cyc) s.ps hp
    have hTs := flyT_set (flyP s.iss mi hrs cyc) s.ps hp
    have hpts := ptsV_ne (n := s.ps.length) (by omega)
    have hptB := ptsB_ne (n := s.ps.length) (by omega)
    have hiss : s.iss.length = p.since.length := by rw [hok.iss, hpf.since]; rfl
    have hissn : s.iss.length ≤ 1000 := by rw [hok.iss]; exact hok.orders
    obtain ⟨s', f1, f2, f3, f4, f5, f6, f7⟩ : ∃ s' : PS → HG, (∀ q, (s' q).ps[k]? = some q) ∧ (∀ q, (s' q).ps.length = s.ps.length) ∧ (∀ q, (s' q).iss = s.iss) ∧
        (∀ q a b c d e f h, hset (Ob hgL (s' q) h) 6043 k { z := 8, els := [[.int .i64 a, .int .i64 b, .int .i64 c, .bool d, .int .i64 e, .int .i64 f, .bsl 6037 k q.since.length, .bsl 6041 k q.chk.length]], ty := 94, fz := false, cl := false } = Ob hgL (s' ⟨a, b, c, d, e, f, q.since, q.chk⟩) h) ∧
        (∀ q j x h, hset (Ob hgL (s' q) h) 6037 k { z := 1, els := (q.since.map ri).set j [.int .i64 x], ty := 3, fz := false, cl := true } = Ob hgL (s' { q with since := q.since.set j x }) h) ∧
        ({ s with ps := flyT (flyP s.iss mi hrs cyc) s.ps k } : HG) = s' p ∧ ({ s with ps := flyT (flyP s.iss mi hrs cyc) s.ps (k + 1) } : HG) = s' (flyP s.iss mi hrs cyc p) := by
      have hkT : k < (flyT (flyP s.iss mi hrs cyc) s.ps k).length := by omega
      refine ⟨fun q => { s with ps := (flyT (flyP s.iss mi hrs cyc) s.ps k).set k q }, fun q => ?_, fun q => ?_, fun q => rfl, fun q a b c d e f h => ?_, fun q j x h => ?_, ?_, ?_⟩
      · simp [hkT]
      · simp [hTl]
      · have := w_part (s := { s with ps := (flyT (flyP s.iss mi hrs cyc) s.ps k).set k q }) (h := h) (i := k) (p := q) (by simp [hkT]) a b c e f d
        simp only [List.set_set] at this
        exact this
      · have := w_since (s := { s with ps := (flyT (flyP s.iss mi hrs cyc) s.ps k).set k q }) (h := h) (i := k) (j := j) (p := q) (by simp [hkT]) x
        simp only [List.set_set] at this
        exact this
      · simp only [set_id hTg]
      · simp only [hTs]
    rw [f6]
    clear f6 hTl hTg hTs
    have f1g : ∀ q (h : k < (s' q).ps.length), (s' q).ps[k] = q := fun q h => by have := f1 q; rw [List.getElem?_eq_getElem h] at this; exact Option.some.inj this
    by_cases hm : p.a = mi
    case neg =>
      have hm' : ((p.a : Int) = (mi : Int)) = False := eq_false hm
      have hfp : flyP s.iss mi hrs cyc p = p := by simp [flyP, hm]
      rw [hfp] at f7
      simp -dsimp [hki]
      repeat' (first | omega | (simp -dsimp [E94, ri, cellp, ints, -lendN, -lend1, hki, hk1, hp, hp', wk, hpts, hptB, f1, f1g, f2, PS.blk, PS.row, hm']) | (refine Also.intro ?_ fun _ => ?_) | (refine Hold.intro fun _ => ?_) | (refine And.intro ?_ ?_))
      refine ⟨⟨k + 1, by omega⟩, tle_chain rfl ?_, HLe.of_eq (by simp only [f7]), by simp only; omega⟩
      simp [okAll, okv]
    simp -dsimp [hki]
    repeat' (first | omega | (simp -dsimp [E94, ri, cellp, ints, -lendN, -lend1, hki, hk1, hp, hp', wk, hpts, hptB, f1, f1g, f2, f3, f4, PS.blk, PS.row, hm]) | (refine Also.intro ?_ fun _ => ?_) | (refine Hold.intro fun _ => ?_) | (refine And.intro ?_ ?_))
    refine awp_loop [76, 77, 11, 78, 79, 80, 81, 82, 83, 84, 85, 86, 87, 88, 89, 90, 91, 92, 93, 94, 95, 75] (fun j : Fin (s.iss.length + 1) => [(75, (true, .int .i64 (j.1 : Nat)))]) (fun j => Ob hgL (s' { p with hours := wadd p.hours hrs, cycles := wadd p.cycles cyc, since := sinceTo s.iss hrs p.since j.1 }) h0) (fun j => s.iss.length - j.1) ⟨0, by omega⟩ ?_ ?_ ?_
    · simp [okAll, okv]
    · exact HLe.of_eq (by simp [sinceTo, wadd, hm])
    rintro ⟨j, hjj⟩
    simp only
    by_cases hj1 : j < s.iss.length
    · have hji : (j : Int) < s.iss.length := by omega
      have wj : IntKind.wrap .i64 ((j : Int) + 1) = (j + 1 : Nat) := wrap_id (by omega) (by omega)
      obtain ⟨b, hb, hb'⟩ := get_ex hj1
      have hS : sinceTo s.iss hrs p.since (j + 1) = if b = true then (sinceTo s.iss hrs p.since j).set j (wadd ((sinceTo s.iss hrs p.since j).getD j 0) hrs) else sinceTo s.iss hrs p.since j := by
        simp only [sinceTo, List.getD, hb, Option.getD_some]
      have hSl := sinceTo_len s.iss hrs p.since j
      generalize sinceTo s.iss hrs p.since j = S at *
      have hjS : j < S.length := by omega
      obtain ⟨x, hx, hx'⟩ := get_ex hjS
      have hxg : S.getD j 0 = x := by simp [List.getD, hx]
      rw [hxg] at hS
      cases b
      · rw [if_neg (by simp)] at hS
        simp -dsimp [hji, f3]
        repeat' (first | omega | (simp -dsimp [E94, ri, cellp, ints, -lendN, -lend1, hji, hj1, hb, hb', wj, f1, f1g, f2, f3, rb]) | (refine Also.intro ?_ fun _ => ?_) | (refine Hold.intro fun _ => ?_) | (refine And.intro ?_ ?_))
        refine ⟨⟨j + 1, by omega⟩, tle_chain rfl ?_, HLe.of_eq (by simp only [hS]), by simp only; omega⟩
        simp [okAll, okv]
      · rw [if_pos rfl] at hS
        simp -dsimp [hji, f3]
        repeat' (first | omega | (simp -dsimp [E94, ri, cellp, ints, -lendN, -lend1, hji, hj1, hb, hb', wj, f1, f1g, f2, f3, f4, f5, rb, PS.blk, PS.row, sinB, hjS, hx, hx', ri]) | (refine Also.intro ?_ fun _ => ?_) | (refine Hold.intro fun _ => ?_) | (refine And.intro ?_ ?_))
        refine ⟨⟨j + 1, by omega⟩, tle_chain rfl ?_, HLe.of_eq (by simp only [hS, wadd]), by simp only; omega⟩
        simp [okAll, okv]
    · have hje : j = s.iss.length := by omega
      have hjn : ¬ (j : Int) < s.iss.length := by omega
      have hfp : flyP s.iss mi hrs cyc p = { p with hours := wadd p.hours hrs, cycles := wadd p.cycles cyc, since := sinceTo s.iss hrs p.since s.iss.length } := by simp [flyP, hm]
      rw [hfp] at f7
      simp -dsimp [hjn, f3]
      repeat' (first | omega | (simp -dsimp [E94, ri, cellp, ints, hjn, f3, wk]) | (refine Also.intro ?_ fun _ => ?_) | (refine Hold.intro fun _ => ?_) | (refine And.intro ?_ ?_))
      refine ⟨⟨k + 1, by omega⟩, tle_kept (kept_upds rfl (kept_forget rfl (kept_upds rfl kept_base))) ?_, HLe.of_eq (by simp only [f7, hje]), by simp only; omega⟩
      simp [okAll, okv]
  · have hkn : ¬ (k : Int) < s.ps.length := by omega
    have hke : k = s.ps.length := by omega
    subst hke
    obtain ⟨f, hfm, hfm'⟩ := get_ex hmi
    obtain ⟨s', f1, f3, f6, f7⟩ : ∃ s' : Int × Int → HG, (∀ q, (s' q).fl = s.fl.set mi q) ∧
        (∀ q x y h, hset (Ob hgL (s' q) h) 6013 0 { z := 2, els := (s.fl.map cycV).set mi [.int .i64 x, .int .i64 y], ty := 88, fz := false, cl := true } = Ob hgL (s' (x, y)) h) ∧
        ({ s with ps := flyT (flyP s.iss mi hrs cyc) s.ps s.ps.length } : HG) = s' f ∧ s.flyDo mi hrs cyc = s' (wadd f.1 hrs, wadd f.2 cyc) := by
      refine ⟨fun q => { s with ps := flyT (flyP s.iss mi hrs cyc) s.ps s.ps.length, fl := s.fl.set mi q }, fun q => rfl, fun q x y h => ?_, ?_, ?_⟩
      · have := w_fl (s := { s with ps := flyT (flyP s.iss mi hrs cyc) s.ps s.ps.length, fl := s.fl.set mi q }) (h := h) (j := mi) x y
        simp only [List.set_set, List.map_set] at this
        exact this
      · simp only [set_id hfm]
      · simp [HG.flyDo, List.getD, hfm, flyT]
    rw [f6]
    have f1' : ∀ q, (s' q).fl[mi]? = some q := fun q => by rw [f1]; simp [hmi]
    simp -dsimp [hkn]
    repeat' (first | omega | (simp -dsimp [E94, ri, cellp, ints, -lendN, -lend1, hkn, hf, f1, f1', f3, f7, cycV, hmi, wadd, hle_refl]) | (refine Also.intro ?_ fun _ => ?_) | (refine Hold.intro fun _ => ?_) | (refine And.intro ?_ ?_))
theorem ok94 : FnOK Tryd.prog 94 (.heap flyS) := heap_fn (E := E94) rfl (.cons ok38 (.cons ok37 (.cons ok50 .nil))) (ok := []) (fn := Tryd.f94) (by kernel_rfl) (by kernel_rfl) (by kernel_rfl) (by kernel_rfl) rfl (fun args h hc => by obtain ⟨_, _, _, rfl, _⟩ := obS_inv hgL_keys hc; simp) b94
end Go.Sx
end
section
/- Parts: a part is put into a machine. No conditions. -/
set_option linter.unusedSimpArgs false
set_option linter.unusedSectionVars false
set_option maxRecDepth 100000
set_option maxHeartbeats 2000000
namespace Go.Sx
open Go.Proofs
attribute [local irreducible] HLe
attribute [local simp] hps_app

section
variable [Gls]
theorem p_hb1 (s : HG) (h : Hp) (a b c d e f : Int) :
    hpush (Ob hgL s h) 9615 { z := 6, els := [[.int .i64 a, .int .i64 b, .int .i64 c, .int .i64 d, .int .i64 e, .int .i64 f]], ty := 181, fz := false, cl := true } = Ob hgL { s with hb := s.hb ++ [[⟨a, b, c, d, e, f⟩]] } h := p_hb (s := s) (h := h) [⟨a, b, c, d, e, f⟩]
theorem w_hb1 (s : HG) (h : Hp) (i : Nat) (l : List Stt) (a b c d e f : Int) :
    hset (Ob hgL s h) 9615 i { z := 6, els := l.map Stt.row ++ [[.int .i64 a, .int .i64 b, .int .i64 c, .int .i64 d, .int .i64 e, .int .i64 f]], ty := 181, fz := false, cl := true } = Ob hgL { s with hb := s.hb.set i (l ++ [⟨a, b, c, d, e, f⟩]) } h := by
  have := w_hb (s := s) (h := h) (i := i) (l ++ [⟨a, b, c, d, e, f⟩])
  simp only [hbB, List.map_append, List.map_cons, List.map_nil, Stt.row] at this
  exact this
end
theorem hiV_none : hiV none = .nil := rfl
theorem hiV_some (i n : Nat) : hiV (some (i, n)) = .bsl 9615 i n := rfl
def HG.fitOk (s : HG) (n m pl : Int) : Bool :=
  s.i.part n && (s.i.machine m && (((s.ps.getD n.toNat default).a == -1 && (s.ps.getD n.toNat default).b == -1) && ((s.ps.getD n.toNat default).known &&
    (withinB pl 0 (wsub (s.r.kinds.getD (s.ps.getD n.toNat default).kind.toNat default).places 1) && decide (s.i.at (s.ps.getD n.toNat default).kind m pl < 0)))))
def HG.stt (s : HG) (m pl : Int) : Stt := ⟨m, pl, s.wk, -1, (s.fl.getD m.toNat (0, 0)).1, (s.fl.getD m.toNat (0, 0)).2⟩
def HG.fitDo (s : HG) (n m pl : Int) : HG :=
  match s.hi.getD n.toNat none with
  | none => { s with ps := s.ps.set n.toNat { s.ps.getD n.toNat default with a := m, b := pl }, hi := s.hi.set n.toNat (some (s.hb.length, 1)), hb := s.hb ++ [[s.stt m pl]], hcl := false }
  | some (i, k) => { s with ps := s.ps.set n.toNat { s.ps.getD n.toNat default with a := m, b := pl }, hi := s.hi.set n.toNat (some (i, k + 1)), hb := s.hb.set i (s.hb.getD i [] ++ [s.stt m pl]), hcl := false }
noncomputable abbrev fitS : HSpec := obS hgL hkeys n3E (fun s _ h => s.Ok ∧ Blank [9510] h) (fun s d _ => .bool (s.fitOk d.a d.b d.c)) (fun s d => if s.fitOk d.a d.b d.c = true then s.fitDo d.a d.b d.c else s) fun _ _ h => bmp [9510] 1 h
theorem fit_go (s : HG) (a b c : Int) (h : Hp) : fitS.go [.bptr 6019 0 1 0 0, .int .i64 a, .int .i64 b, .int .i64 c] (Ob hgL s h) = ⟨s.Ok ∧ Blank [9510] (Ob hgL s h), .bool (s.fitOk a b c), Ob hgL (if s.fitOk a b c = true then s.fitDo a b c else s) (bmp [9510] 1 (Ob hgL s h))⟩ :=
  obS_go hgL_keys hgL_inj n3E_inj s ⟨a, b, c⟩ h
noncomputable abbrev E95 : Env := { P := Tryd.prog, fn := tbl [(38, .pure machineS), (37, .pure withinS), (97, .pure partS), (40, .pure haS)], own := [], key := 9500, nt := 117 }
theorem b95 : HeapBody E95 [(7, ([], [[0, 1, 2, 3, 4, 5, 6, 7, 8, 9, 10, 11, 12, 13, 14, 15, 16, 17, 18, 19, 20, 21, 22, 23, 24, 25, 26, 27, 28, 29, 30, 31, 32, 33, 34, 35, 36, 37, 38], [0, 1, 2, 4, 5, 6, 7, 8, 9, 10, 11, 12, 13, 14, 15, 16, 17, 18, 19, 20, 21, 22, 23, 24, 25, 26, 27, 28, 29, 30, 31, 32, 33, 34, 35, 36, 3, 37, 38]]))] Tryd.f95 fitS := by
  intro args h hc
  obtain ⟨s, ⟨n, m, pl⟩, hh, rfl, ⟨hok, hbk⟩, hgo⟩ := obS_inv hgL_keys hc
  rw [hgo]
  clear hgo hc
  obtain ⟨h0, rfl⟩ : ∃ h0, h = Ob hgL s h0 := ⟨h, hh⟩
  clear hh
  have hk := hok.hok
  have hb : h0 9510 = { base := (h0 9510).base, blks := [] } := by simpa [Blank] using hbk
  clear hbk
  have hh0 : h0 = hps [(9510, { base := (h0 9510).base, blks := [] })] h0 := Blank.self (own := [9510]) (by simpa [Blank] using hb)
  clear hb
  generalize (h0 9510).base = b at hh0
  rw [hh0]
  clear hh0
  simp only [bmp, List.map_cons, List.map_nil]
  cases c1 : s.i.part n
  · have hf : s.fitOk n m pl = false := by simp [HG.fitOk, c1]
    simp -dsimp [Tryd.f95, E95, -lendN, -lend1]
    repeat' (first | omega | (simp -dsimp [E95, ri, cellp, ints, -lendN, -lend1, hk, g_hset, HI.v, hiE_dec', c1, hf, g_hset, bmp]) | (refine Also.intro ?_ fun _ => ?_) | (refine Hold.intro fun _ => ?_) | (refine And.intro ?_ ?_))
    exact (by (try simp -dsimp only [hpush_hps, hps_app, List.cons_append, List.nil_append, hps_over]); refine ob_hle ?_; simp -dsimp [allK, ]; repeat' (first | (refine And.intro ?_ ?_) | (refine sLe.same ?_ ?_ <;> (simp; done)) | (refine sLe.clear ?_ ?_ <;> (first | (simp; done) | (simp; omega))) | (refine sLe.drop 1 ?_ ?_ ?_ <;> (simp; done))))
  cases c2 : s.i.machine m
  · have hf : s.fitOk n m pl = false := by simp [HG.fitOk, c1, c2]
    simp -dsimp [Tryd.f95, E95, -lendN, -lend1]
    repeat' (first | omega | (simp -dsimp [E95, ri, cellp, ints, -lendN, -lend1, hk, g_hset, HI.v, hiE_dec', c1, c2, hf, bmp]) | (refine Also.intro ?_ fun _ => ?_) | (refine Hold.intro fun _ => ?_) | (refine And.intro ?_ ?_))
    exact (by (try simp -dsimp only [hpush_hps, hps_app, List.cons_append, List.nil_append, hps_over]); refine ob_hle ?_; simp -dsimp [allK, ]; repeat' (first | (refine And.intro ?_ ?_) | (refine sLe.same ?_ ?_ <;> (simp; done)) | (refine sLe.clear ?_ ?_ <;> (first | (simp; done) | (simp; omega))) | (refine sLe.drop 1 ?_ ?_ ?_ <;> (simp; done))))
  have hml : (s.r.machines : Int) ≤ 1000 := hok.m1
  have hfl := hok.fl
  obtain ⟨mi, rfl, hmi⟩ : ∃ k : Nat, m = k ∧ k < s.fl.length := by
    have := withinB_nat (n := m) (m := s.fl.length) (by omega) (by rw [hfl]; exact c2)
    exact this
  have hps := hok.ps
  obtain ⟨ni, rfl, hni⟩ := withinB_nat (m := s.ps.length) (by omega) c1
  obtain ⟨p, hp, hp'⟩ := get_ex hni
  have hpf := hok.fit p (hp' ▸ List.getElem_mem hni)
  have hpts := ptsV_ne (n := s.ps.length) (by omega)
  have hptB := ptsB_ne (n := s.ps.length) (by omega)
  have hmx := mapIdx_get hp
  have hgp : s.ps.getD ni default = p := by simp [List.getD, hp]
  obtain ⟨ki, hki⟩ : ∃ ki : Nat, p.kind = ki := ⟨p.kind.toNat, by have := hpf.k0; omega⟩
  have hk2 : ki < s.r.kinds.length := by have : p.kind < s.r.kinds.length := hpf.k1; omega
  obtain ⟨kd, hkd, hkd'⟩ := get_ex hk2
  have hgk : s.r.kinds.getD ki default = kd := by simp [List.getD, hkd]
  have hval : s.fitOk ni mi pl = ((p.a == -1 && p.b == -1) && (p.known && (withinB pl 0 (IntKind.wrap .i64 (kd.places - 1)) && decide (s.i.at ki mi pl < 0)))) := by
    simp only [HG.fitOk, c1, c2, Int.toNat_natCast, hgp, hki, hgk, Bool.true_and, wsub]
  have h92 : s.i.ps.length ≤ 9223372036854775807 := by have : s.i.ps.length ≤ 1000 := hok.ps; omega
  cases c3 : (p.a == -1 && p.b == -1)
  · have hf : s.fitOk ni mi pl = false := by rw [hval, c3]; rfl
    simp -dsimp [Tryd.f95, E95, -lendN, -lend1]
    repeat' (first | omega | (simp -dsimp [E95, ri, cellp, ints, -lendN, -lend1, hk, g_hset, HI.v, hiE_dec', c1, c2, c3, hf, hni, hp, hp', hpts, hptB, PS.blk, PS.row]) | (refine Also.intro ?_ fun _ => ?_) | (refine Hold.intro fun _ => ?_) | (refine And.intro ?_ ?_))
    exact (by (try simp -dsimp only [hpush_hps, hps_app, List.cons_append, List.nil_append, hps_over]); refine ob_hle ?_; simp -dsimp [allK, ]; repeat' (first | (refine And.intro ?_ ?_) | (refine sLe.same ?_ ?_ <;> (simp; done)) | (refine sLe.clear ?_ ?_ <;> (first | (simp; done) | (simp; omega))) | (refine sLe.drop 1 ?_ ?_ ?_ <;> (simp; done))))
  cases c4 : p.known
  · have hf : s.fitOk ni mi pl = false := by rw [hval, c3, c4]; rfl
    simp -dsimp [Tryd.f95, E95, -lendN, -lend1]
    repeat' (first | omega | (simp -dsimp [E95, ri, cellp, ints, -lendN, -lend1, hk, g_hset, HI.v, hiE_dec', c1, c2, c3, c4, hf, hni, hp, hp', hpts, hptB, PS.blk, PS.row]) | (refine Also.intro ?_ fun _ => ?_) | (refine Hold.intro fun _ => ?_) | (refine And.intro ?_ ?_))
    exact (by (try simp -dsimp only [hpush_hps, hps_app, List.cons_append, List.nil_append, hps_over]); refine ob_hle ?_; simp -dsimp [allK, ]; repeat' (first | (refine And.intro ?_ ?_) | (refine sLe.same ?_ ?_ <;> (simp; done)) | (refine sLe.clear ?_ ?_ <;> (first | (simp; done) | (simp; omega))) | (refine sLe.drop 1 ?_ ?_ ?_ <;> (simp; done))))
  cases c5 : withinB pl 0 (IntKind.wrap .i64 (kd.places - 1))
  · have hf : s.fitOk ni mi pl = false := by rw [hval, c3, c4, c5]; rfl
    simp -dsimp [Tryd.f95, E95, -lendN, -lend1]
    repeat' (first | omega | (simp -dsimp [E95, ri, cellp, ints, -lendN, -lend1, hk, g_hset, HI.v, hiE_dec', c1, c2, c3, c4, c5, hf, hni, hp, hp', hpts, hptB, PS.blk, PS.row, hki, hk2, hkd, hkd', Kd.row]) | (refine Also.intro ?_ fun _ => ?_) | (refine Hold.intro fun _ => ?_) | (refine And.intro ?_ ?_))
    exact (by (try simp -dsimp only [hpush_hps, hps_app, List.cons_append, List.nil_append, hps_over]); refine ob_hle ?_; simp -dsimp [allK, ]; repeat' (first | (refine And.intro ?_ ?_) | (refine sLe.same ?_ ?_ <;> (simp; done)) | (refine sLe.clear ?_ ?_ <;> (first | (simp; done) | (simp; omega))) | (refine sLe.drop 1 ?_ ?_ ?_ <;> (simp; done))))
  by_cases c6 : s.i.at ki mi pl < 0
  case neg =>
    have hf : s.fitOk ni mi pl = false := by rw [hval, c3, c4, c5, decide_eq_false c6]; rfl
    have c6' : 0 ≤ s.i.at ki mi pl := by omega
    simp -dsimp [Tryd.f95, E95, -lendN, -lend1]
    repeat' (first | omega | (simp -dsimp [E95, ri, cellp, ints, -lendN, -lend1, hk, g_hset, HI.v, hiE_dec', haE_dec', h92, c1, c2, c3, c4, c5, c6', hf, hni, hp, hp', hpts, hptB, PS.blk, PS.row, hki, hk2, hkd, hkd', Kd.row]) | (refine Also.intro ?_ fun _ => ?_) | (refine Hold.intro fun _ => ?_) | (refine And.intro ?_ ?_))
    exact (by (try simp -dsimp only [hpush_hps, hps_app, List.cons_append, List.nil_append, hps_over]); refine ob_hle ?_; simp -dsimp [allK, ]; repeat' (first | (refine And.intro ?_ ?_) | (refine sLe.same ?_ ?_ <;> (simp; done)) | (refine sLe.clear ?_ ?_ <;> (first | (simp; done) | (simp; omega))) | (refine sLe.drop 1 ?_ ?_ ?_ <;> (simp; done))))
  have hf : s.fitOk ni mi pl = true := by rw [hval, c3, c4, c5, decide_eq_true c6]; rfl
  have c6' : ¬ 0 ≤ s.i.at ki mi pl := by omega
  obtain ⟨f, hfm, hfm'⟩ := get_ex hmi
  have hgf : s.fl.getD mi (0, 0) = f := by simp [List.getD, hfm]
  have hnh : ni < s.hi.length := by rw [hok.hil]; exact hni
  obtain ⟨o, ho, ho'⟩ := get_ex hnh
  have hgo : s.hi.getD ni none = o := by simp [List.getD, ho]
  have hst : s.stt mi pl = ⟨mi, pl, s.wk, -1, f.1, f.2⟩ := by simp only [HG.stt, Int.toNat_natCast, hgf]
  have hw := fun h a b c e f d => w_part (s := s) (h := h) hp a b c e f d
  cases o with
  | none =>
    have hdo : s.fitDo ni mi pl = { s with ps := s.ps.set ni ⟨p.kind, p.hours, p.cycles, p.known, mi, pl, p.since, p.chk⟩, hi := s.hi.set ni (some (s.hb.length, 1)), hb := s.hb ++ [[⟨mi, pl, s.wk, -1, f.1, f.2⟩]], hcl := false } := by
      simp only [HG.fitDo, Int.toNat_natCast, hgo, hgp, hst]
    have hw2 := fun s h j i k => w_hi (s := s) (h := h) (j := j) (i, k)
    simp only at hw2
    simp -dsimp [Tryd.f95, E95, -lendN, -lend1]
    repeat' (first | omega | (simp -dsimp [E95, ri, cellp, ints, -lendN, -lend1, hk, g_hset, HI.v, hiE_dec', haE_dec', h92, c1, c2, c3, c4, c5, c6', hf, hni, hp, hp', hpts, hptB, PS.blk, PS.row, hki, hk2, hkd, hkd', Kd.row, hw, hnh, ho, ho', hiV_none, hiV_some, hmi, hfm, hfm', cycV, hw2, p_hb1, hdo]) | (refine Also.intro ?_ fun _ => ?_) | (refine Hold.intro fun _ => ?_) | (refine And.intro ?_ ?_))
    all_goals exact (by (try simp -dsimp only [hpush_hps, hps_app, List.cons_append, List.nil_append, hps_over]); refine ob_hle ?_; simp -dsimp [allK, ]; repeat' (first | (refine And.intro ?_ ?_) | (refine sLe.same ?_ ?_ <;> (simp; done)) | (refine sLe.clear ?_ ?_ <;> (first | (simp; done) | (simp; omega))) | (refine sLe.drop 1 ?_ ?_ ?_ <;> (simp; done))))
  | some x =>
    obtain ⟨i, k⟩ := x
    obtain ⟨l, hl, hlk⟩ := hk.hi _ (ho' ▸ List.getElem_mem hnh) i k rfl
    subst hlk
    have hll := (hok.hl i l hl).1
    have hll' : (l.length + 1) * 48 ≤ 140737488355328 := by omega
    have hgl : s.hb.getD i [] = l := by simp [List.getD, hl]
    have hlb : (s.hb.map hbB)[i]? = some { z := 6, els := l.map Stt.row, ty := 181 } := by rw [List.getElem?_map, hl]; rfl
    have hdo : s.fitDo ni mi pl = { s with ps := s.ps.set ni ⟨p.kind, p.hours, p.cycles, p.known, mi, pl, p.since, p.chk⟩, hi := s.hi.set ni (some (i, l.length + 1)), hb := s.hb.set i (l ++ [⟨mi, pl, s.wk, -1, f.1, f.2⟩]), hcl := false } := by
      simp only [HG.fitDo, Int.toNat_natCast, hgo, hgp, hst, hgl]
    have hw2 := fun s h j i k => w_hi (s := s) (h := h) (j := j) (i, k)
    simp only at hw2
    simp -dsimp [Tryd.f95, E95, -lendN, -lend1]
    repeat' (first | omega | (simp -dsimp [E95, ri, cellp, ints, -lendN, -lend1, hk, g_hset, HI.v, hiE_dec', haE_dec', h92, c1, c2, c3, c4, c5, c6', hf, hni, hp, hp', hpts, hptB, PS.blk, PS.row, hki, hk2, hkd, hkd', Kd.row, hw, hnh, ho, ho', hiV_none, hiV_some, hmi, hfm, hfm', cycV, hw2, w_hb1, hl, hll, hll', hbB, hdo]) | (refine Also.intro ?_ fun _ => ?_) | (refine Hold.intro fun _ => ?_) | (refine And.intro ?_ ?_))
    all_goals exact (by (try simp -dsimp only [hpush_hps, hps_app, List.cons_append, List.nil_append, hps_over]); refine ob_hle ?_; simp -dsimp [allK, ]; repeat' (first | (refine And.intro ?_ ?_) | (refine sLe.same ?_ ?_ <;> (simp; done)) | (refine sLe.clear ?_ ?_ <;> (first | (simp; done) | (simp; omega))) | (refine sLe.drop 1 ?_ ?_ ?_ <;> (simp; done))))
theorem ok95 : FnOK Tryd.prog 95 (.heap fitS) := heap_fn (E := E95) rfl (.cons ok38 (.cons ok37 (.cons ok97 (.cons ok40 .nil)))) (ok := [(7, ([], [[0, 1, 2, 3, 4, 5, 6, 7, 8, 9, 10, 11, 12, 13, 14, 15, 16, 17, 18, 19, 20, 21, 22, 23, 24, 25, 26, 27, 28, 29, 30, 31, 32, 33, 34, 35, 36, 37, 38], [0, 1, 2, 4, 5, 6, 7, 8, 9, 10, 11, 12, 13, 14, 15, 16, 17, 18, 19, 20, 21, 22, 23, 24, 25, 26, 27, 28, 29, 30, 31, 32, 33, 34, 35, 36, 3, 37, 38]]))]) (fn := Tryd.f95) (by kernel_rfl) (by kernel_rfl) (by kernel_rfl) (by kernel_rfl) rfl (fun args h hc => by obtain ⟨_, _, _, rfl, _⟩ := obS_inv hgL_keys hc; simp) b95
end Go.Sx
end
section
/- Parts: a work. No conditions. -/
set_option linter.unusedSimpArgs false
set_option linter.unusedSectionVars false
set_option maxRecDepth 100000
set_option maxHeartbeats 2000000
namespace Go.Sx
open Go.Proofs
attribute [local irreducible] HLe
attribute [local simp] hps_app

def Wk.alone (w : Wk) : Bool := w.b == 0 && w.c == 0
def HG.takeOk (s : HG) (n : Int) : Bool := s.i.part n && decide (0 ≤ (s.ps.getD n.toNat default).a)
def HG.put (s : HG) (n a b : Int) : HG := { s with ps := s.ps.set n.toNat { s.ps.getD n.toNat default with a := a, b := b } }
def HG.hist (s : HG) (n : Int) : Nat := match s.hi.getD n.toNat none with | some (i, _) => i | none => 0
def HG.takeDo (s : HG) (n : Int) : HG := (s.put n (-1) (-1)).endd (s.hist n) s.wk
def HG.issueOk (s : HG) (n : Int) : Bool := s.i.order n && !s.iss.getD n.toNat false
def HG.issueDo (s : HG) (n : Int) : HG := { s with iss := s.iss.set n.toNat true }
def HG.scrapOk (s : HG) (n : Int) : Bool := s.i.part n && ((s.ps.getD n.toNat default).a == -1 && (s.ps.getD n.toNat default).b == -1)
def HG.doOk (s : HG) (w : Wk) : Bool :=
  if w.kind = 1 then s.flyOk w.a w.b w.c else if w.kind = 2 then s.fitOk w.a w.b w.c else if w.kind = 5 then (w.c == 0 && s.chkOk w.a w.b) else
  if w.kind = 3 then (w.alone && s.takeOk w.a) else if w.kind = 4 then (w.alone && s.issueOk w.a) else if w.kind = 6 then (w.alone && s.scrapOk w.a) else false
def HG.doDo (s : HG) (w : Wk) : HG :=
  if w.kind = 1 then s.flyDo w.a w.b w.c else if w.kind = 2 then s.fitDo w.a w.b w.c else if w.kind = 5 then s.chkDo w.a w.b else
  if w.kind = 3 then s.takeDo w.a else if w.kind = 4 then s.issueDo w.a else if w.kind = 6 then s.put w.a (-2) (-2) else s
def HG.after (s : HG) (w : Wk) : HG := if s.doOk w = true then s.doDo w else s
@[simp] def doE (_ : HG) (w : Wk) : List V := [.bptr 6019 0 1 0 0, .agg w.row]
theorem doE_inj (s : HG) (d d' : Wk) (h : doE s d = doE s d') : d = d' := Wk.row_inj _ _ (by simpa using h)
abbrev doOwn : List Nat := [6103, 9510]
noncomputable abbrev doS : HSpec := obS hgL hkeys doE (fun s _ h => s.Ok ∧ Blank doOwn h) (fun s w _ => .bool (s.doOk w)) HG.after fun _ _ h => bmp doOwn 1 h
theorem do_go (s : HG) (w : Wk) (h : Hp) : doS.go [.bptr 6019 0 1 0 0, .agg w.row] (Ob hgL s h) = ⟨s.Ok ∧ Blank doOwn (Ob hgL s h), .bool (s.doOk w), Ob hgL (s.after w) (bmp doOwn 1 (Ob hgL s h))⟩ :=
  obS_go hgL_keys hgL_inj doE_inj s w h
theorem take_eq {s : HG} {n : Nat} {p : PS} (hp : s.ps[n]? = some p) (a b : Int) : s.put n a b = { s with ps := s.ps.set n ⟨p.kind, p.hours, p.cycles, p.known, a, b, p.since, p.chk⟩ } := by simp [HG.put, List.getD, hp]
noncomputable abbrev E61 : Env := { P := Tryd.prog, fn := tbl [(94, .heap flyS), (95, .heap fitS), (96, .heap checkS), (97, .pure partS), (99, .pure orderS), (98, .heap endS)], own := [], key := 6100, nt := 165 }
theorem b61 : HeapBody E61 [] Tryd.f61 doS := by
  intro args h hc
  obtain ⟨s, ⟨k, a, b, c⟩, hh, rfl, ⟨hok, hbk⟩, hgo⟩ := obS_inv hgL_keys hc
  rw [hgo]
  clear hgo hc
  obtain ⟨h0, rfl⟩ : ∃ h0, h = Ob hgL s h0 := ⟨h, hh⟩
  clear hh
  have hk := hok.hok
  have hb : ∀ k ∈ doOwn, h0 k = { base := (h0 k).base, blks := [] } := by
    intro k hk
    have := hbk k hk
    rw [g_ne _ _ (by simp only [doOwn, List.mem_cons, List.not_mem_nil, or_false] at hk; rcases hk with rfl | rfl <;> simp)] at this
    exact this
  clear hbk
  have hh0 : h0 = hps [(6103, { base := (h0 6103).base, blks := [] }), (9510, { base := (h0 9510).base, blks := [] })] h0 := Blank.self (own := doOwn) hb
  clear hb
  generalize (h0 6103).base = e1 at hh0
  generalize (h0 9510).base = e2 at hh0
  rw [hh0]
  clear hh0
  have hrow : ∀ k a b c, Wk.row ⟨k, a, b, c⟩ = [.int .i64 k, .int .i64 a, .int .i64 b, .int .i64 c] := fun _ _ _ _ => rfl
  simp only [bmp, doOwn, List.map_cons, List.map_nil, doE, hrow]
  have hbl : ∀ (S : Site) (x : Nat), Blank [9510] (Ob hgL s (hps [(6103, S), (9510, { base := x, blks := [] })] h0)) := by
    intro S x k hk
    simp only [List.mem_cons, List.not_mem_nil, or_false] at hk
    subst hk; simp
  by_cases k1 : k = 1
  · subst k1
    have h1 : s.doOk ⟨1, a, b, c⟩ = s.flyOk a b c := by simp [HG.doOk]
    have h2 : s.after ⟨1, a, b, c⟩ = if s.flyOk a b c = true then s.flyDo a b c else s := by simp [HG.after, HG.doDo, h1]
    rw [h1, h2]
    by_cases hb : b = 0 <;> by_cases hc : c = 0 <;> simp -dsimp [Tryd.f61, E61, hb, hc, -lendN, -lend1] <;> repeat' (first | omega | (simp -dsimp [E61, ri, cellp, ints, -lendN, -lend1, hb, hc, hk, g_hset, fly_go, hok]) | (refine Also.intro ?_ fun _ => ?_) | (refine Hold.intro fun _ => ?_) | (refine And.intro ?_ ?_))
    all_goals exact (by (try simp -dsimp only [hpush_hps, hps_app, List.cons_append, List.nil_append, hps_over]); refine ob_hle ?_; simp -dsimp [allK, ]; repeat' (first | (refine And.intro ?_ ?_) | (refine sLe.same ?_ ?_ <;> (simp; done)) | (refine sLe.clear ?_ ?_ <;> (first | (simp; done) | (simp; omega))) | (refine sLe.drop 1 ?_ ?_ ?_ <;> (simp; done))))
  by_cases k2 : k = 2
  · subst k2
    have h1 : s.doOk ⟨2, a, b, c⟩ = s.fitOk a b c := by simp [HG.doOk]
    have h2 : s.after ⟨2, a, b, c⟩ = if s.fitOk a b c = true then s.fitDo a b c else s := by simp [HG.after, HG.doDo, h1]
    rw [h1, h2]
    by_cases hb : b = 0 <;> by_cases hc : c = 0 <;> simp -dsimp [Tryd.f61, E61, hb, hc, -lendN, -lend1] <;> repeat' (first | omega | (simp -dsimp [E61, ri, cellp, ints, -lendN, -lend1, hb, hc, hk, g_hset, fit_go, hok, hbl, bmp]) | (refine Also.intro ?_ fun _ => ?_) | (refine Hold.intro fun _ => ?_) | (refine And.intro ?_ ?_))
    all_goals exact (by (try simp -dsimp only [hpush_hps, hps_app, List.cons_append, List.nil_append, hps_over]); refine ob_hle ?_; simp -dsimp [allK, ]; repeat' (first | (refine And.intro ?_ ?_) | (refine sLe.same ?_ ?_ <;> (simp; done)) | (refine sLe.clear ?_ ?_ <;> (first | (simp; done) | (simp; omega))) | (refine sLe.drop 1 ?_ ?_ ?_ <;> (simp; done))))
  by_cases k5 : k = 5
  · subst k5
    by_cases hc : c = 0
    · subst hc
      have h1 : s.doOk ⟨5, a, b, 0⟩ = s.chkOk a b := by simp [HG.doOk]
      have h2 : s.after ⟨5, a, b, 0⟩ = if s.chkOk a b = true then s.chkDo a b else s := by rw [← h1]; simp [HG.after, HG.doDo]
      rw [h1, h2]
      by_cases hb : b = 0 <;> simp -dsimp [Tryd.f61, E61, hb, -lendN, -lend1] <;> repeat' (first | omega | (simp -dsimp [E61, ri, cellp, ints, -lendN, -lend1, hb, hk, g_hset, check_go, hok]) | (refine Also.intro ?_ fun _ => ?_) | (refine Hold.intro fun _ => ?_) | (refine And.intro ?_ ?_))
      all_goals exact (by (try simp -dsimp only [hpush_hps, hps_app, List.cons_append, List.nil_append, hps_over]); refine ob_hle ?_; simp -dsimp [allK, ]; repeat' (first | (refine And.intro ?_ ?_) | (refine sLe.same ?_ ?_ <;> (simp; done)) | (refine sLe.clear ?_ ?_ <;> (first | (simp; done) | (simp; omega))) | (refine sLe.drop 1 ?_ ?_ ?_ <;> (simp; done))))
    · have hc' : (c == 0) = false := by simpa using hc
      have h1 : s.doOk ⟨5, a, b, c⟩ = false := by simp [HG.doOk, hc]
      have h2 : s.after ⟨5, a, b, c⟩ = s := by simp [HG.after, h1]
      rw [h1, h2]
      by_cases hb : b = 0 <;> simp -dsimp [Tryd.f61, E61, hb, hc, -lendN, -lend1] <;> repeat' (first | omega | (simp -dsimp [E61, ri, cellp, ints, -lendN, -lend1, hb, hc, hc', hk, g_hset, check_go, hok]) | (refine Also.intro ?_ fun _ => ?_) | (refine Hold.intro fun _ => ?_) | (refine And.intro ?_ ?_))
      all_goals exact (by (try simp -dsimp only [hpush_hps, hps_app, List.cons_append, List.nil_append, hps_over]); refine ob_hle ?_; simp -dsimp [allK, ]; repeat' (first | (refine And.intro ?_ ?_) | (refine sLe.same ?_ ?_ <;> (simp; done)) | (refine sLe.clear ?_ ?_ <;> (first | (simp; done) | (simp; omega))) | (refine sLe.drop 1 ?_ ?_ ?_ <;> (simp; done))))
  by_cases hal : b = 0 ∧ c = 0
  case neg =>
    have hal' : (b == 0 && c == 0) = false := by
      cases h : (b == 0 && c == 0)
      · rfl
      · exact absurd (by simpa using h) hal
    have h1 : s.doOk ⟨k, a, b, c⟩ = false := by simp [HG.doOk, Wk.alone, k1, k2, k5, hal']
    have h2 : s.after ⟨k, a, b, c⟩ = s := by simp [HG.after, h1]
    rw [h1, h2]
    by_cases k3 : k = 3
    · subst k3
      by_cases hb : b = 0
      · have hc : ¬ c = 0 := fun h => hal ⟨hb, h⟩
        simp -dsimp [Tryd.f61, E61, hb, hc, -lendN, -lend1]
        repeat' (first | omega | (simp -dsimp [E61, ri, cellp, ints, -lendN, -lend1, hb, hc, hk, g_hset]) | (refine Also.intro ?_ fun _ => ?_) | (refine Hold.intro fun _ => ?_) | (refine And.intro ?_ ?_))
        exact (by (try simp -dsimp only [hpush_hps, hps_app, List.cons_append, List.nil_append, hps_over]); refine ob_hle ?_; simp -dsimp [allK, ]; repeat' (first | (refine And.intro ?_ ?_) | (refine sLe.same ?_ ?_ <;> (simp; done)) | (refine sLe.clear ?_ ?_ <;> (first | (simp; done) | (simp; omega))) | (refine sLe.drop 1 ?_ ?_ ?_ <;> (simp; done))))
      · simp -dsimp [Tryd.f61, E61, hb, -lendN, -lend1]
        repeat' (first | omega | (simp -dsimp [E61, ri, cellp, ints, -lendN, -lend1, hb, hk, g_hset]) | (refine Also.intro ?_ fun _ => ?_) | (refine Hold.intro fun _ => ?_) | (refine And.intro ?_ ?_))
        exact (by (try simp -dsimp only [hpush_hps, hps_app, List.cons_append, List.nil_append, hps_over]); refine ob_hle ?_; simp -dsimp [allK, ]; repeat' (first | (refine And.intro ?_ ?_) | (refine sLe.same ?_ ?_ <;> (simp; done)) | (refine sLe.clear ?_ ?_ <;> (first | (simp; done) | (simp; omega))) | (refine sLe.drop 1 ?_ ?_ ?_ <;> (simp; done))))
    by_cases k4 : k = 4
    · subst k4
      by_cases hb : b = 0
      · have hc : ¬ c = 0 := fun h => hal ⟨hb, h⟩
        simp -dsimp [Tryd.f61, E61, hb, hc, -lendN, -lend1]
        repeat' (first | omega | (simp -dsimp [E61, ri, cellp, ints, -lendN, -lend1, hb, hc, hk, g_hset]) | (refine Also.intro ?_ fun _ => ?_) | (refine Hold.intro fun _ => ?_) | (refine And.intro ?_ ?_))
        exact (by (try simp -dsimp only [hpush_hps, hps_app, List.cons_append, List.nil_append, hps_over]); refine ob_hle ?_; simp -dsimp [allK, ]; repeat' (first | (refine And.intro ?_ ?_) | (refine sLe.same ?_ ?_ <;> (simp; done)) | (refine sLe.clear ?_ ?_ <;> (first | (simp; done) | (simp; omega))) | (refine sLe.drop 1 ?_ ?_ ?_ <;> (simp; done))))
      · simp -dsimp [Tryd.f61, E61, hb, -lendN, -lend1]
        repeat' (first | omega | (simp -dsimp [E61, ri, cellp, ints, -lendN, -lend1, hb, hk, g_hset]) | (refine Also.intro ?_ fun _ => ?_) | (refine Hold.intro fun _ => ?_) | (refine And.intro ?_ ?_))
        exact (by (try simp -dsimp only [hpush_hps, hps_app, List.cons_append, List.nil_append, hps_over]); refine ob_hle ?_; simp -dsimp [allK, ]; repeat' (first | (refine And.intro ?_ ?_) | (refine sLe.same ?_ ?_ <;> (simp; done)) | (refine sLe.clear ?_ ?_ <;> (first | (simp; done) | (simp; omega))) | (refine sLe.drop 1 ?_ ?_ ?_ <;> (simp; done))))
    by_cases k6 : k = 6
    · subst k6
      by_cases hb : b = 0
      · have hc : ¬ c = 0 := fun h => hal ⟨hb, h⟩
        simp -dsimp [Tryd.f61, E61, hb, hc, -lendN, -lend1]
        repeat' (first | omega | (simp -dsimp [E61, ri, cellp, ints, -lendN, -lend1, hb, hc, hk, g_hset]) | (refine Also.intro ?_ fun _ => ?_) | (refine Hold.intro fun _ => ?_) | (refine And.intro ?_ ?_))
        exact (by (try simp -dsimp only [hpush_hps, hps_app, List.cons_append, List.nil_append, hps_over]); refine ob_hle ?_; simp -dsimp [allK, ]; repeat' (first | (refine And.intro ?_ ?_) | (refine sLe.same ?_ ?_ <;> (simp; done)) | (refine sLe.clear ?_ ?_ <;> (first | (simp; done) | (simp; omega))) | (refine sLe.drop 1 ?_ ?_ ?_ <;> (simp; done))))
      · simp -dsimp [Tryd.f61, E61, hb, -lendN, -lend1]
        repeat' (first | omega | (simp -dsimp [E61, ri, cellp, ints, -lendN, -lend1, hb, hk, g_hset]) | (refine Also.intro ?_ fun _ => ?_) | (refine Hold.intro fun _ => ?_) | (refine And.intro ?_ ?_))
        exact (by (try simp -dsimp only [hpush_hps, hps_app, List.cons_append, List.nil_append, hps_over]); refine ob_hle ?_; simp -dsimp [allK, ]; repeat' (first | (refine And.intro ?_ ?_) | (refine sLe.same ?_ ?_ <;> (simp; done)) | (refine sLe.clear ?_ ?_ <;> (first | (simp; done) | (simp; omega))) | (refine sLe.drop 1 ?_ ?_ ?_ <;> (simp; done))))
    by_cases hb : b = 0 <;> by_cases hc : c = 0 <;> simp -dsimp [Tryd.f61, E61, hb, hc, k1, k2, k3, k4, k5, k6, -lendN, -lend1] <;> repeat' (first | omega | (simp -dsimp [E61, ri, cellp, ints, -lendN, -lend1, hb, hc, hk, k1, k2, k3, k4, k5, k6, g_hset]) | (refine Also.intro ?_ fun _ => ?_) | (refine Hold.intro fun _ => ?_) | (refine And.intro ?_ ?_))
    all_goals exact (by (try simp -dsimp only [hpush_hps, hps_app, List.cons_append, List.nil_append, hps_over]); refine ob_hle ?_; simp -dsimp [allK, ]; repeat' (first | (refine And.intro ?_ ?_) | (refine sLe.same ?_ ?_ <;> (simp; done)) | (refine sLe.clear ?_ ?_ <;> (first | (simp; done) | (simp; omega))) | (refine sLe.drop 1 ?_ ?_ ?_ <;> (simp; done))))
  obtain ⟨hb, hc⟩ := hal
  subst hb
  subst hc
  by_cases k3 : k = 3
  · subst k3
    have h1 : s.doOk ⟨3, a, 0, 0⟩ = s.takeOk a := by simp [HG.doOk, Wk.alone]
    have h2 : s.after ⟨3, a, 0, 0⟩ = if s.takeOk a = true then s.takeDo a else s := by rw [← h1]; simp [HG.after, HG.doDo]
    rw [h1, h2]
    cases c1 : s.i.part a
    · have hf : s.takeOk a = false := by simp [HG.takeOk, c1]
      simp -dsimp [Tryd.f61, E61, -lendN, -lend1]
      repeat' (first | omega | (simp -dsimp [E61, ri, cellp, ints, -lendN, -lend1, hk, g_hset, HI.v, hiE_dec', c1, hf]) | (refine Also.intro ?_ fun _ => ?_) | (refine Hold.intro fun _ => ?_) | (refine And.intro ?_ ?_))
      exact (by (try simp -dsimp only [hpush_hps, hps_app, List.cons_append, List.nil_append, hps_over]); refine ob_hle ?_; simp -dsimp [allK, ]; repeat' (first | (refine And.intro ?_ ?_) | (refine sLe.same ?_ ?_ <;> (simp; done)) | (refine sLe.clear ?_ ?_ <;> (first | (simp; done) | (simp; omega))) | (refine sLe.drop 1 ?_ ?_ ?_ <;> (simp; done))))
    have hps := hok.ps
    obtain ⟨ni, rfl, hni⟩ := withinB_nat (m := s.ps.length) (by omega) c1
    obtain ⟨p, hp, hp'⟩ := get_ex hni
    have hpts := ptsV_ne (n := s.ps.length) (by omega)
    have hptB := ptsB_ne (n := s.ps.length) (by omega)
    have hmx := mapIdx_get hp
    have hgp : s.ps.getD ni default = p := by simp [List.getD, hp]
    have hval : s.takeOk ni = decide (0 ≤ p.a) := by simp only [HG.takeOk, c1, Int.toNat_natCast, hgp, Bool.true_and]
    by_cases hpa : p.a < 0
    · have hf : s.takeOk ni = false := by rw [hval]; simp; omega
      simp -dsimp [Tryd.f61, E61, -lendN, -lend1]
      repeat' (first | omega | (simp -dsimp [E61, ri, cellp, ints, -lendN, -lend1, hk, g_hset, HI.v, hiE_dec', c1, hf, hni, hp, hp', hpts, hptB, PS.blk, PS.row, hpa]) | (refine Also.intro ?_ fun _ => ?_) | (refine Hold.intro fun _ => ?_) | (refine And.intro ?_ ?_))
      exact (by (try simp -dsimp only [hpush_hps, hps_app, List.cons_append, List.nil_append, hps_over]); refine ob_hle ?_; simp -dsimp [allK, ]; repeat' (first | (refine And.intro ?_ ?_) | (refine sLe.same ?_ ?_ <;> (simp; done)) | (refine sLe.clear ?_ ?_ <;> (first | (simp; done) | (simp; omega))) | (refine sLe.drop 1 ?_ ?_ ?_ <;> (simp; done))))
    have hf : s.takeOk ni = true := by rw [hval]; simp; omega
    obtain ⟨_, i, l, hh1, hh2⟩ := hok.at_ ni p hp (by omega)
    obtain ⟨hnh, hh1'⟩ := List.getElem?_eq_some_iff.1 hh1
    have hdo : s.takeDo ni = ({ s with ps := s.ps.set ni ⟨p.kind, p.hours, p.cycles, p.known, -1, -1, p.since, p.chk⟩ } : HG).endd i s.wk := by
      rw [HG.takeDo, take_eq hp]; simp [HG.hist, List.getD, hh1]
    have hw := fun h a b c e f d => w_part (s := s) (h := h) hp a b c e f d
    have hE : ∃ l', EndOk ({ s with ps := s.ps.set ni ⟨p.kind, p.hours, p.cycles, p.known, -1, -1, p.since, p.chk⟩ } : HG) i l' ∧ l.length = l'.length := ⟨l, ⟨hh2.at_, hh2.ne, hh2.len, hh2.m0, hh2.m1⟩, rfl⟩
    simp -dsimp [Tryd.f61, E61, -lendN, -lend1]
    repeat' (first | omega | (simp -dsimp [E61, ri, cellp, ints, -lendN, -lend1, hk, g_hset, HI.v, hiE_dec', c1, hf, hni, hp, hp', hpts, hptB, PS.blk, PS.row, hpa, hw, hnh, hh1, hh1', hiV_some, end_go, hE, hdo]) | (refine Also.intro ?_ fun _ => ?_) | (refine Hold.intro fun _ => ?_) | (refine And.intro ?_ ?_))
    all_goals exact (by (try simp -dsimp only [hpush_hps, hps_app, List.cons_append, List.nil_append, hps_over]); refine ob_hle ?_; simp -dsimp [allK, ]; repeat' (first | (refine And.intro ?_ ?_) | (refine sLe.same ?_ ?_ <;> (simp; done)) | (refine sLe.clear ?_ ?_ <;> (first | (simp; done) | (simp; omega))) | (refine sLe.drop 1 ?_ ?_ ?_ <;> (simp; done))))
  by_cases k4 : k = 4
  · subst k4
    have h1 : s.doOk ⟨4, a, 0, 0⟩ = s.issueOk a := by simp [HG.doOk, Wk.alone]
    have h2 : s.after ⟨4, a, 0, 0⟩ = if s.issueOk a = true then s.issueDo a else s := by rw [← h1]; simp [HG.after, HG.doDo]
    rw [h1, h2]
    cases c1 : s.i.order a
    · have hf : s.issueOk a = false := by simp [HG.issueOk, c1]
      simp -dsimp [Tryd.f61, E61, -lendN, -lend1]
      repeat' (first | omega | (simp -dsimp [E61, ri, cellp, ints, -lendN, -lend1, hk, g_hset, HI.v, hiE_dec', c1, hf]) | (refine Also.intro ?_ fun _ => ?_) | (refine Hold.intro fun _ => ?_) | (refine And.intro ?_ ?_))
      exact (by (try simp -dsimp only [hpush_hps, hps_app, List.cons_append, List.nil_append, hps_over]); refine ob_hle ?_; simp -dsimp [allK, ]; repeat' (first | (refine And.intro ?_ ?_) | (refine sLe.same ?_ ?_ <;> (simp; done)) | (refine sLe.clear ?_ ?_ <;> (first | (simp; done) | (simp; omega))) | (refine sLe.drop 1 ?_ ?_ ?_ <;> (simp; done))))
    have hos := hok.orders
    obtain ⟨oi, rfl, hoi⟩ := withinB_nat (m := s.r.orders.length) (by omega) c1
    have l1 : oi < s.iss.length := by have := hok.iss; omega
    obtain ⟨b1, hb1, hb1'⟩ := get_ex l1
    have hgb : s.iss.getD oi false = b1 := by simp [List.getD, hb1]
    have hval : s.issueOk oi = !b1 := by simp only [HG.issueOk, c1, Int.toNat_natCast, hgb, Bool.true_and]
    have hw := fun h => w_iss (s := s) (h := h) (j := oi) true
    have hdo : s.issueDo oi = { s with iss := s.iss.set oi true } := rfl
    cases b1
    · have hf : s.issueOk oi = true := by rw [hval]; rfl
      simp -dsimp [Tryd.f61, E61, -lendN, -lend1]
      repeat' (first | omega | (simp -dsimp [E61, ri, cellp, ints, -lendN, -lend1, hk, g_hset, HI.v, hiE_dec', c1, hf, l1, hb1, hb1', rb, hw, hdo]) | (refine Also.intro ?_ fun _ => ?_) | (refine Hold.intro fun _ => ?_) | (refine And.intro ?_ ?_))
      all_goals exact (by (try simp -dsimp only [hpush_hps, hps_app, List.cons_append, List.nil_append, hps_over]); refine ob_hle ?_; simp -dsimp [allK, ]; repeat' (first | (refine And.intro ?_ ?_) | (refine sLe.same ?_ ?_ <;> (simp; done)) | (refine sLe.clear ?_ ?_ <;> (first | (simp; done) | (simp; omega))) | (refine sLe.drop 1 ?_ ?_ ?_ <;> (simp; done))))
    · have hf : s.issueOk oi = false := by rw [hval]; rfl
      simp -dsimp [Tryd.f61, E61, -lendN, -lend1]
      repeat' (first | omega | (simp -dsimp [E61, ri, cellp, ints, -lendN, -lend1, hk, g_hset, HI.v, hiE_dec', c1, hf, l1, hb1, hb1', rb]) | (refine Also.intro ?_ fun _ => ?_) | (refine Hold.intro fun _ => ?_) | (refine And.intro ?_ ?_))
      all_goals exact (by (try simp -dsimp only [hpush_hps, hps_app, List.cons_append, List.nil_append, hps_over]); refine ob_hle ?_; simp -dsimp [allK, ]; repeat' (first | (refine And.intro ?_ ?_) | (refine sLe.same ?_ ?_ <;> (simp; done)) | (refine sLe.clear ?_ ?_ <;> (first | (simp; done) | (simp; omega))) | (refine sLe.drop 1 ?_ ?_ ?_ <;> (simp; done))))
  by_cases k6 : k = 6
  · subst k6
    have h1 : s.doOk ⟨6, a, 0, 0⟩ = s.scrapOk a := by simp [HG.doOk, Wk.alone]
    have h2 : s.after ⟨6, a, 0, 0⟩ = if s.scrapOk a = true then s.put a (-2) (-2) else s := by rw [← h1]; simp [HG.after, HG.doDo]
    rw [h1, h2]
    cases c1 : s.i.part a
    · have hf : s.scrapOk a = false := by simp [HG.scrapOk, c1]
      simp -dsimp [Tryd.f61, E61, -lendN, -lend1]
      repeat' (first | omega | (simp -dsimp [E61, ri, cellp, ints, -lendN, -lend1, hk, g_hset, HI.v, hiE_dec', c1, hf]) | (refine Also.intro ?_ fun _ => ?_) | (refine Hold.intro fun _ => ?_) | (refine And.intro ?_ ?_))
      exact (by (try simp -dsimp only [hpush_hps, hps_app, List.cons_append, List.nil_append, hps_over]); refine ob_hle ?_; simp -dsimp [allK, ]; repeat' (first | (refine And.intro ?_ ?_) | (refine sLe.same ?_ ?_ <;> (simp; done)) | (refine sLe.clear ?_ ?_ <;> (first | (simp; done) | (simp; omega))) | (refine sLe.drop 1 ?_ ?_ ?_ <;> (simp; done))))
    have hps := hok.ps
    obtain ⟨ni, rfl, hni⟩ := withinB_nat (m := s.ps.length) (by omega) c1
    obtain ⟨p, hp, hp'⟩ := get_ex hni
    have hpts := ptsV_ne (n := s.ps.length) (by omega)
    have hptB := ptsB_ne (n := s.ps.length) (by omega)
    have hmx := mapIdx_get hp
    have hgp : s.ps.getD ni default = p := by simp [List.getD, hp]
    have hval : s.scrapOk ni = (p.a == -1 && p.b == -1) := by simp only [HG.scrapOk, c1, Int.toNat_natCast, hgp, Bool.true_and]
    have hw := fun h a b c e f d => w_part (s := s) (h := h) hp a b c e f d
    cases c3 : (p.a == -1 && p.b == -1)
    · have hf : s.scrapOk ni = false := by rw [hval, c3]
      simp -dsimp [Tryd.f61, E61, -lendN, -lend1]
      repeat' (first | omega | (simp -dsimp [E61, ri, cellp, ints, -lendN, -lend1, hk, g_hset, HI.v, hiE_dec', c1, c3, hf, hni, hp, hp', hpts, hptB, PS.blk, PS.row]) | (refine Also.intro ?_ fun _ => ?_) | (refine Hold.intro fun _ => ?_) | (refine And.intro ?_ ?_))
      exact (by (try simp -dsimp only [hpush_hps, hps_app, List.cons_append, List.nil_append, hps_over]); refine ob_hle ?_; simp -dsimp [allK, ]; repeat' (first | (refine And.intro ?_ ?_) | (refine sLe.same ?_ ?_ <;> (simp; done)) | (refine sLe.clear ?_ ?_ <;> (first | (simp; done) | (simp; omega))) | (refine sLe.drop 1 ?_ ?_ ?_ <;> (simp; done))))
    · have hf : s.scrapOk ni = true := by rw [hval, c3]
      simp -dsimp [Tryd.f61, E61, -lendN, -lend1]
      repeat' (first | omega | (simp -dsimp [E61, ri, cellp, ints, -lendN, -lend1, hk, g_hset, HI.v, hiE_dec', c1, c3, hf, hni, hp, hp', hpts, hptB, PS.blk, PS.row, hw, take_eq hp]) | (refine Also.intro ?_ fun _ => ?_) | (refine Hold.intro fun _ => ?_) | (refine And.intro ?_ ?_))
      all_goals exact (by (try simp -dsimp only [hpush_hps, hps_app, List.cons_append, List.nil_append, hps_over]); refine ob_hle ?_; simp -dsimp [allK, ]; repeat' (first | (refine And.intro ?_ ?_) | (refine sLe.same ?_ ?_ <;> (simp; done)) | (refine sLe.clear ?_ ?_ <;> (first | (simp; done) | (simp; omega))) | (refine sLe.drop 1 ?_ ?_ ?_ <;> (simp; done))))
  have h1 : s.doOk ⟨k, a, 0, 0⟩ = false := by simp [HG.doOk, k1, k2, k5, k3, k4, k6]
  have h2 : s.after ⟨k, a, 0, 0⟩ = s := by simp [HG.after, h1]
  rw [h1, h2]
  simp -dsimp [Tryd.f61, E61, k1, k2, k3, k4, k5, k6, -lendN, -lend1]
  repeat' (first | omega | (simp -dsimp [E61, ri, cellp, ints, -lendN, -lend1, hk, k1, k2, k3, k4, k5, k6, g_hset]) | (refine Also.intro ?_ fun _ => ?_) | (refine Hold.intro fun _ => ?_) | (refine And.intro ?_ ?_))
  all_goals exact (by (try simp -dsimp only [hpush_hps, hps_app, List.cons_append, List.nil_append, hps_over]); refine ob_hle ?_; simp -dsimp [allK, ]; repeat' (first | (refine And.intro ?_ ?_) | (refine sLe.same ?_ ?_ <;> (simp; done)) | (refine sLe.clear ?_ ?_ <;> (first | (simp; done) | (simp; omega))) | (refine sLe.drop 1 ?_ ?_ ?_ <;> (simp; done))))
theorem ok61 : FnOK Tryd.prog 61 (.heap doS) := heap_fn (E := E61) rfl (.cons ok94 (.cons ok95 (.cons ok96 (.cons ok97 (.cons ok99 (.cons ok98 .nil)))))) (ok := []) (fn := Tryd.f61) (by kernel_rfl) (by kernel_rfl) (by kernel_rfl) (by kernel_rfl) rfl (fun args h hc => by obtain ⟨_, _, _, rfl, _⟩ := obS_inv hgL_keys hc; simp) b61
end Go.Sx
end
section
/- Parts: what all works leave true of a hangar. No conditions. -/
set_option linter.unusedSimpArgs false
set_option linter.unusedSectionVars false
namespace Go.Sx

/-- What holds of a hangar behind n right works. -/
structure HG.Inv (s : HG) (r : Reg) (n : Nat) : Prop where
  rg : s.r = r
  val : r.valid = true
  psl : s.ps.length = r.parts.length
  pk : ∀ (k : Nat) (p : PS), s.ps[k]? = some p → p.kind = (r.parts.getD k default).kind ∧ p.known = (r.parts.getD k default).known ∧ p.since.length = r.orders.length ∧ p.chk.length = r.orders.length
  iss : s.iss.length = r.orders.length
  fl : (s.fl.length : Int) = r.machines
  wk : s.wk = n
  hil : s.hi.length = s.ps.length
  hi : ∀ (k i m : Nat), s.hi[k]? = some (some (i, m)) → ∃ l, s.hb[i]? = some l ∧ l.length = m ∧ 0 < m ∧ ∀ t ∈ l, 0 ≤ t.machine ∧ t.machine < r.machines
  inj : ∀ (k k' i m m' : Nat), s.hi[k]? = some (some (i, m)) → s.hi[k']? = some (some (i, m')) → k = k'
  cl : s.hcl = true → ∀ o ∈ s.hi, o = none
  hbl : s.hb.length ≤ n
  hbs : ∀ (i : Nat) (l : List Stt), s.hb[i]? = some l → l.length ≤ n
  pa : ∀ (k : Nat) (p : PS), s.ps[k]? = some p → (p.a = -1 ∧ p.b = -1) ∨ (p.a = -2 ∧ p.b = -2) ∨ (0 ≤ p.a ∧ p.a < r.machines ∧ 0 ≤ p.b ∧ p.b < (r.kinds.getD p.kind.toNat default).places ∧ ∃ i m, s.hi[k]? = some (some (i, m)))

theorem valid_facts {r : Reg} (h : r.valid = true) : r.kinds.length ≤ 6 ∧ r.parts.length ≤ 24 ∧ r.orders.length ≤ 6 ∧ 0 ≤ r.machines ∧ r.machines ≤ 4 ∧
    (∀ kd ∈ r.kinds, 1 ≤ kd.hours ∧ kd.hours ≤ 100000 ∧ 1 ≤ kd.cycles ∧ kd.cycles ≤ 100000 ∧ 0 ≤ kd.places ∧ kd.places ≤ 4) ∧
    (∀ p ∈ r.parts, 0 ≤ p.kind ∧ p.kind < r.kinds.length ∧ 0 ≤ p.hours ∧ p.hours ≤ 100000 ∧ 0 ≤ p.cycles ∧ p.cycles ≤ 100000) ∧
    (∀ o ∈ r.orders, 0 ≤ o.kind ∧ o.kind < r.kinds.length ∧ 0 ≤ o.within ∧ o.within ≤ 100000) := by
  simp only [Reg.valid, Bool.and_eq_true, decide_eq_true_eq, Bool.not_eq_true', List.any_eq_false] at h
  obtain ⟨h1, h2, h3, h4, h5, h6, h7⟩ := h
  have h4' : 0 ≤ r.machines ∧ r.machines ≤ 4 := by simpa [withinB] using h4
  have hkk : ∀ n, r.kindOk n = true → 0 ≤ n ∧ n < r.kinds.length := by
    intro n hn
    have hw : wsub (r.kinds.length : Int) 1 = r.kinds.length - 1 := wrap_id (by omega) (by omega)
    simp only [Reg.kindOk, hw, withinB, decide_eq_true_eq] at hn
    omega
  refine ⟨h1, h2, h3, h4'.1, h4'.2, fun kd hk => ?_, fun p hp => ?_, fun o ho => ?_⟩
  · have := h5 kd hk
    simp [Kd.bad, withinB] at this
    omega
  · have := h6 p hp
    simp only [Reg.badP, Bool.or_eq_true, Bool.not_eq_true', not_or, Bool.not_eq_false] at this
    obtain ⟨⟨a1, a2⟩, a3⟩ := this
    have := hkk _ a1
    simp [withinB] at a2 a3
    omega
  · have := h7 o ho
    simp only [Reg.badO, Bool.or_eq_true, Bool.not_eq_true', not_or, Bool.not_eq_false] at this
    obtain ⟨a1, a2⟩ := this
    have := hkk _ a1
    simp [withinB] at a2
    omega

theorem getD_mem {α : Type} [Inhabited α] {l : List α} {k : Nat} (h : k < l.length) : l.getD k default ∈ l := by
  have : l.getD k default = l[k] := by simp [List.getD, h]
  rw [this]; exact List.getElem_mem h

theorem HG.Inv.ok {s : HG} {r : Reg} {n : Nat} (h : s.Inv r n) (hn : n ≤ 1000000) : s.Ok := by
  obtain ⟨v1, v2, v3, v4, v5, v6, v7, v8⟩ := valid_facts h.val
  have e := h.rg
  refine ⟨⟨fun o ho i m ho' => ?_, h.cl⟩, by rw [h.psl]; omega, by rw [e]; omega, by rw [e]; omega, fun kd hk => ?_, fun p hp => ?_, h.hil, by rw [e]; exact v4, by rw [e]; omega, by rw [e]; exact h.iss, by rw [e]; exact h.fl, fun i l hl => ⟨?_, ?_⟩, fun k p hp ha => ?_⟩
  · subst ho'
    obtain ⟨k, hk⟩ := List.mem_iff_getElem?.1 ho
    obtain ⟨l, h1, h2, _⟩ := h.hi k i m hk
    exact ⟨l, h1, h2⟩
  · rw [e] at hk; have := v6 kd hk; omega
  · obtain ⟨k, hk⟩ := List.mem_iff_getElem?.1 hp
    obtain ⟨p1, p2, p3, p4⟩ := h.pk k p hk
    have hkl : k < r.parts.length := by rw [← h.psl]; exact (List.getElem?_eq_some_iff.1 hk).1
    have := v7 _ (getD_mem hkl)
    exact ⟨by rw [p1]; omega, by show p.kind < (s.r.kinds.length : Int); rw [e, p1]; omega, by show s.iss.length = s.r.orders.length; rw [e]; exact h.iss, by show _ = s.r.orders.length; rw [e]; exact p4, by show _ = s.r.orders.length; rw [e]; exact p3, by show s.r.orders.length ≤ _; rw [e]; omega⟩
  · have := h.hbs i l hl; omega
  · have := h.hbl; omega
  · rcases h.pa k p hp with h1 | h1 | ⟨h1, h2, _, _, i, m, h5⟩
    · omega
    · omega
    · refine ⟨by rw [e]; exact h2, ?_⟩
      obtain ⟨l, l1, l2, l3, l4⟩ := h.hi k i m h5
      have hlt : l.length - 1 < l.length := by omega
      have hm := l4 _ (getD_mem hlt)
      exact ⟨i, l, by rw [l2]; exact h5, l1, by omega, by have := h.hbs i l l1; omega, hm.1, by rw [h.fl]; exact hm.2⟩

theorem HG.Inv.new {r : Reg} (h : r.valid = true) : (HG.new r).Inv r 0 := by
  obtain ⟨v1, v2, v3, v4, v5, v6, v7, v8⟩ := valid_facts h
  have hn : ∀ (k i m : Nat), (HG.new r).hi[k]? = some (some (i, m)) → False := by
    intro k i m hk
    have : (List.replicate r.parts.length (none : Option (Nat × Nat)))[k]? = some (some (i, m)) := hk
    rw [List.getElem?_replicate] at this
    split at this <;> simp at this
  refine ⟨rfl, h, by simp [HG.new], fun k p hp => ?_, by simp [HG.new], by simp [HG.new]; omega, rfl, by simp [HG.new], fun k i m hk => (hn k i m hk).elim, fun k _ i m _ hk _ => (hn k i m hk).elim, fun _ o ho => (List.mem_replicate.1 ho).2, Nat.le_refl _, fun i l hl => by simp [HG.new] at hl, fun k p hp => ?_⟩
  · have hp' : (r.parts.map (PS.new r))[k]? = some p := hp
    rw [List.getElem?_map] at hp'
    cases hq : r.parts[k]? with
    | none => rw [hq] at hp'; simp at hp'
    | some q =>
      rw [hq] at hp'
      simp only [Option.map_some, Option.some.injEq] at hp'
      subst hp'
      simp [PS.new, List.getD, hq]
  · have hp' : (r.parts.map (PS.new r))[k]? = some p := hp
    rw [List.getElem?_map] at hp'
    cases hq : r.parts[k]? with
    | none => rw [hq] at hp'; simp at hp'
    | some q =>
      rw [hq] at hp'
      simp only [Option.map_some, Option.some.injEq] at hp'
      subst hp'
      exact .inl ⟨rfl, rfl⟩
end Go.Sx
end
