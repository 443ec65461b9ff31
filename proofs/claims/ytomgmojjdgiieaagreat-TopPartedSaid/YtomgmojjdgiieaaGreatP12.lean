/- The soundness of maps: making one, looking into it, writing into it. No conditions. -/
import Derived.Test.YtomgmojjdgiieaaGreatP11
import Derived.MapKept
import Derived.RangeFuncRecord
set_option linter.unusedSimpArgs false
set_option linter.unusedVariables false
set_option linter.unusedSectionVars false
namespace Go.Sx
open Go.RowKit
variable [Gls]
omit [Gls] in
theorem cvK_inj {a b : Int × Int × Int} (h : cvK a = cvK b) : a = b := by
  obtain ⟨a1, a2, a3⟩ := a; obtain ⟨b1, b2, b3⟩ := b
  simpa [cvK] using h
omit [Gls] in
theorem mlook_none {k : Int × Int × Int} : ∀ {l : List ((Int × Int × Int) × List Int)}, (∀ p ∈ l, p.1 ≠ k) → mlook l k = none
  | [], _ => rfl
  | (k', v) :: l, h => by
    have h0 := h (k', v) (by simp)
    simp only [mlook]
    rw [if_neg (fun e => h0 e.symm)]
    exact mlook_none fun p hp => h p (by simp [hp])
omit [Gls] in
theorem mput_none {k : Int × Int × Int} {v : List Int} : ∀ {l : List ((Int × Int × Int) × List Int)}, (∀ p ∈ l, p.1 ≠ k) → mput l k v = l ++ [(k, v)]
  | [], _ => rfl
  | (k', x) :: l, h => by
    have h0 := h (k', x) (by simp)
    simp only [mput]
    rw [if_neg (fun e => h0 e.symm), mput_none fun p hp => h p (by simp [hp])]
    rfl
omit [Gls] in
theorem mlook_at {k : Int × Int × Int} {v : List Int} : ∀ {l : List ((Int × Int × Int) × List Int)} {j : Nat}, (l.map (·.1)).Nodup → l[j]? = some (k, v) → mlook l k = some v
  | [], j, _, h => by simp at h
  | (k', x) :: l, 0, _, h => by
    simp at h; obtain ⟨rfl, rfl⟩ := h
    simp [mlook]
  | (k', x) :: l, j + 1, hn, h => by
    simp only [List.map_cons, List.nodup_cons] at hn
    have hm : (k, v) ∈ l := List.mem_of_getElem? (by simpa using h)
    have hne : k ≠ k' := fun e => hn.1 (e ▸ List.mem_map.2 ⟨_, hm, rfl⟩)
    simp only [mlook]
    rw [if_neg hne]
    exact mlook_at hn.2 (by simpa using h)
omit [Gls] in
theorem mput_at {k : Int × Int × Int} {v y : List Int} : ∀ {l : List ((Int × Int × Int) × List Int)} {j : Nat}, (l.map (·.1)).Nodup → l[j]? = some (k, v) → mput l k y = l.modify j fun p => (p.1, y)
  | [], j, _, h => by simp at h
  | (k', x) :: l, 0, _, h => by
    simp at h; obtain ⟨rfl, rfl⟩ := h
    simp [mput]
  | (k', x) :: l, j + 1, hn, h => by
    simp only [List.map_cons, List.nodup_cons] at hn
    have hm : (k, v) ∈ l := List.mem_of_getElem? (by simpa using h)
    have hne : k ≠ k' := fun e => hn.1 (e ▸ List.mem_map.2 ⟨_, hm, rfl⟩)
    simp only [mput]
    rw [if_neg hne, mput_at hn.2 (by simpa using h)]
    simp
omit [Gls] in
theorem mput_keys {k : Int × Int × Int} {v : List Int} : ∀ {l : List ((Int × Int × Int) × List Int)} {q : Int × Int × Int}, q ∈ (mput l k v).map (·.1) ↔ q = k ∨ q ∈ l.map (·.1)
  | [], q => by simp [mput]
  | (k', x) :: l, q => by
    simp only [mput]
    split
    · rename_i e; subst e; simp
    · have ih := mput_keys (k := k) (v := v) (l := l) (q := q)
      simp only [List.map_cons, List.mem_cons, ih]
      constructor
      · rintro (h | h | h)
        · exact .inr (.inl h)
        · exact .inl h
        · exact .inr (.inr h)
      · rintro (h | h | h)
        · exact .inr (.inl h)
        · exact .inl h
        · exact .inr (.inr h)
omit [Gls] in
theorem mput_nodup {k : Int × Int × Int} {v : List Int} : ∀ {l : List ((Int × Int × Int) × List Int)}, (l.map (·.1)).Nodup → ((mput l k v).map (·.1)).Nodup
  | [], _ => by simp [mput]
  | (k', x) :: l, h => by
    simp only [List.map_cons, List.nodup_cons] at h
    simp only [mput]
    split
    · simp only [List.map_cons, List.nodup_cons]; exact h
    · rename_i hne
      simp only [List.map_cons, List.nodup_cons, mput_keys]
      refine ⟨?_, mput_nodup h.2⟩
      rintro (e | e)
      · exact hne e.symm
      · exact h.1 e
omit [Gls] in
theorem MpOK.get {es : Array MapEntry} {m : Mp} (h : MpOK es m) {j : Nat} {e : MapEntry} (he : es.toList[j]? = some e) : ∃ p, m.es[j]? = some p ∧ e.key = cvK p.1 ∧ e.val = cvX m.sc p.2 := by
  have h1 := congrArg (fun l => l[j]?) h.1
  simp only [List.getElem?_map, he, Option.map_some] at h1
  cases hp : m.es[j]? with
  | none => rw [hp] at h1; simp at h1
  | some p =>
    rw [hp] at h1
    simp only [Option.map_some, Option.some.injEq, Prod.mk.injEq] at h1
    exact ⟨p, rfl, h1.1, h1.2⟩
omit [Gls] in
theorem MpOK.mem {es : Array MapEntry} {m : Mp} (h : MpOK es m) {e : MapEntry} (he : e ∈ es.toList) : ∃ p ∈ m.es, e.key = cvK p.1 := by
  obtain ⟨j, hj⟩ := List.getElem?_of_mem he
  obtain ⟨p, h1, h2, _⟩ := h.get hj
  exact ⟨p, List.mem_of_getElem? h1, h2⟩
omit [Gls] in
theorem MpOK.back {es : Array MapEntry} {m : Mp} (h : MpOK es m) {p : (Int × Int × Int) × List Int} (hp : p ∈ m.es) : ∃ e ∈ es.toList, e.key = cvK p.1 := by
  have : (cvK p.1, cvX m.sc p.2) ∈ m.es.map fun p => (cvK p.1, cvX m.sc p.2) := List.mem_map.2 ⟨p, hp, rfl⟩
  rw [← h.1] at this
  obtain ⟨e, he, h2⟩ := List.mem_map.1 this
  exact ⟨e, he, congrArg Prod.fst h2⟩
omit [Gls] in
theorem mput_kR {k : Int × Int × Int} {v : List Int} : ∀ {l : List ((Int × Int × Int) × List Int)}, (∀ p ∈ l, kR p.1) → kR k → ∀ p ∈ mput l k v, kR p.1
  | [], _, hk, p, hp => by simp [mput] at hp; subst hp; exact hk
  | (k', x) :: r, h, hk, p, hp => by
    simp only [mput] at hp
    split at hp
    · rcases List.mem_cons.1 hp with rfl | hp
      · exact h (k', x) (by simp)
      · exact h p (by simp [hp])
    · rcases List.mem_cons.1 hp with rfl | hp
      · exact h (k', x) (by simp)
      · exact mput_kR (fun q hq => h q (by simp [hq])) hk p hp
section run
variable {P : Program} {w : World} {kt et T : TypeId} {r clk : Nat} {es : Array MapEntry} {m : Mp}
omit [Gls] in
theorem mpEl_und {p : TypeId × TypeId} (h : mpEl P T = some p) : P.underlying T = some (.map p.1 p.2) := by
  unfold mpEl at h
  split at h
  · rename_i k e hu; cases h; exact hu
  · cases h
omit [Gls] in
theorem allInts_map : ∀ {cs : List V} {l : List Int}, allInts cs = some l → cs = l.map fun n => V.int .i64 n
  | [], l, h => by simp [allInts] at h; subst h; rfl
  | x :: cs, l, h => by
    unfold allInts at h
    split at h
    · rename_i e; cases e
    · rename_i n r e
      cases e
      cases hr : allInts cs with
      | none => rw [hr] at h; cases h
      | some l' =>
        rw [hr] at h
        simp only [Option.map_some, Option.some.injEq] at h
        subst h
        rw [allInts_map hr]; rfl
    · cases h
omit [Gls] in
theorem ofVal1_int {v : Value} {n : Int} (h : ofVal1 v = .int .i64 n) : v = .int .i64 n := by
  unfold ofVal1 at h
  split at h <;> first | (cases h; rfl) | (cases h)
omit [Gls] in
theorem map_ofVal1 : ∀ {us : List Value} {l : List Int}, us.map ofVal1 = l.map (fun n => V.int .i64 n) → us = l.map fun n => Value.int .i64 n
  | [], [], _ => rfl
  | [], _ :: _, h => by simp at h
  | _ :: _, [], h => by simp at h
  | u :: us, n :: l, h => by
    simp only [List.map_cons, List.cons.injEq] at h
    rw [ofVal1_int h.1, map_ofVal1 h.2]; rfl
omit [Gls] in
theorem zMp_zero {sc : Bool} {d : List Int} (h : zMp P et = some (sc, d)) : (zeroValue et).run P w = .ok (cvX sc d) w := by
  unfold zMp at h
  cases hi : P.info? et with
  | none => rw [hi] at h; simp at h
  | some i =>
    rw [hi] at h
    simp only [Option.bind_some] at h
    have : i.zero = some (cvX sc d) := by
      split at h
      · rename_i n hz; cases h; exact hz
      · rename_i us hz
        cases ha : allInts (us.toList.map ofVal1) with
        | none => rw [ha] at h; cases h
        | some l =>
          rw [ha] at h
          simp only [Option.map_some, Option.some.injEq, Prod.mk.injEq] at h
          obtain ⟨rfl, rfl⟩ := h
          have h2 := map_ofVal1 (allInts_map ha)
          rw [hz]
          simp only [cvX, Bool.false_eq_true, if_false]
          congr 2
          apply Array.ext'
          rw [h2]
      · cases h
    simp [zeroValue, typeInfo, hi, this]
omit [Gls] in
theorem run_look (ht : mpEl P T = some (kt, et)) (K : KT P kt) (hz : zMp P et = some (m.sc, m.d)) (hb : w.heap[r]? = some (Obj.map es clk)) (hm : MpOK es m) (k : Int × Int × Int) (hkr : kR k) (ok : Bool) :
    (Instr.lookup T (.map (some r)) (cvK k) ok).run P w = .ok (if ok then .tuple #[cvX m.sc (m.get k), .bool (mlook m.es k).isSome] else cvX m.sc (m.get k)) w := by
  have hu := mpEl_und ht
  obtain ⟨lx, hl⟩ := Option.isSome_iff_exists.1 (K.key k hkr)
  have hall : ∀ e ∈ es.toList, ∃ l, keyOf P kt e.key = some l := fun e he => by
    obtain ⟨p, hp, h2⟩ := hm.mem he
    rw [h2]; exact Option.isSome_iff_exists.1 (K.key p.1 (hm.r p hp))
  unfold Instr.lookup
  simp only [Sem.run_bind, run_underlying hu, Result.andThen_ok, run_getObj_map w r es clk hb, Sem.run_pure, K.law.check w _ hl]
  rcases K.law.find w hl es.toList hall with ⟨h1, h2⟩ | ⟨j, e, h1, h2, h3⟩
  · have hn : mlook m.es k = none := mlook_none fun p hp e => by
      obtain ⟨x, hx, h4⟩ := hm.back hp
      exact h2 x hx (by rw [h4, e])
    simp only [h1, Result.andThen_ok, Sem.run_bind, zMp_zero hz, Sem.run_pure, Mp.get, hn, Option.getD_none, Option.isSome_none]
  · obtain ⟨p, p1, p2, p3⟩ := hm.get h2
    have e1 : p.1 = k := cvK_inj (p2.symm.trans h3)
    obtain ⟨p0, v⟩ := p
    simp only at e1 p3
    subst e1
    have hs := mlook_at hm.2 p1
    simp only [h1, Result.andThen_ok, Sem.run_pure, p3, Mp.get, hs, Option.getD_some, Option.isSome_some]
    cases ok <;> simp
omit [Gls] in
theorem run_mput (ht : mpEl P T = some (kt, et)) (K : KT P kt) (hb : w.heap[r]? = some (Obj.map es clk)) (hm : MpOK es m) (k : Int × Int × Int) (hkr : kR k) (v : List Int) :
    ∃ es' clk', (Instr.mapUpdate T (.map (some r)) (cvK k) (cvX m.sc v)).run P w = .ok () (w.putObj r (.map es' clk')) ∧ MpOK es' { m with es := mput m.es k v } := by
  have hu := mpEl_und ht
  obtain ⟨lx, hl⟩ := Option.isSome_iff_exists.1 (K.key k hkr)
  have hall : ∀ e ∈ es.toList, ∃ l, keyOf P kt e.key = some l := fun e he => by
    obtain ⟨p, hp, h2⟩ := hm.mem he
    rw [h2]; exact Option.isSome_iff_exists.1 (K.key p.1 (hm.r p hp))
  unfold Instr.mapUpdate
  simp only [Sem.run_bind, run_underlying hu, Result.andThen_ok, run_getObj_map w r es clk hb, K.law.check w _ hl]
  rcases K.law.find w hl es.toList hall with ⟨h1, h2⟩ | ⟨j, e, h1, h2, h3⟩
  · have hne : ∀ p ∈ m.es, p.1 ≠ k := fun p hp e => by
      obtain ⟨x, hx, h4⟩ := hm.back hp
      exact h2 x hx (by rw [h4, e])
    refine ⟨es.push { key := cvK k, val := cvX m.sc v, born := clk }, clk + 1, ?_, ?_, mput_nodup hm.2, mput_kR hm.r hkr⟩
    · simp only [h1, Result.andThen_ok, MapKept.run_setObj_map _ hb, World.putObj]
    · show (es.push _).toList.map _ = (mput m.es k v).map _
      rw [mput_none hne]
      simp [hm.1]
  · obtain ⟨p, p1, p2, p3⟩ := hm.get h2
    have e1 : p.1 = k := cvK_inj (p2.symm.trans h3)
    obtain ⟨p0, v0⟩ := p
    simp only at e1 p3
    subst e1
    have hej : es[j]? = some e := by rw [← Array.getElem?_toList]; exact h2
    refine ⟨es.modify j fun e => { e with key := cvK p0, val := cvX m.sc v }, clk, ?_, ?_, mput_nodup hm.2, mput_kR hm.r hkr⟩
    · simp only [h1, Result.andThen_ok, hej, Option.map_some, Option.getD_some, h3, K.law.stays w hl, Sem.run_bind, MapKept.run_setObj_map _ hb, World.putObj]
    · show (es.modify j _).toList.map _ = (mput m.es p0 v).map _
      rw [mput_at hm.2 p1, Array.toList_modify]
      have hl2 := congrArg List.length hm.1
      simp only [List.length_map] at hl2
      apply List.ext_getElem?
      intro i
      simp only [List.getElem?_map, List.getElem?_modify]
      have hi := congrArg (fun l => l[i]?) hm.1
      simp only [List.getElem?_map] at hi
      by_cases hji : j = i
      · subst hji
        simp [h2, p1]
      · simpa [hji] using hi
omit [Gls] in
theorem run_mkMap {z : Bool × List Int} (h : (mpEl P T).bind (fun p => zMp P p.2) = some z) (ρ : Option Value) (hr : ∀ x, ρ = some x → ∃ k n, x = .int k n) :
    (Instr.makeMap T ρ).run P w = .ok (.map (some w.heap.size)) (w.alloc (.map #[] 0)) := by
  cases hm : mpEl P T with
  | none => rw [hm] at h; cases h
  | some p =>
    have hu := mpEl_und hm
    unfold Instr.makeMap
    cases ρ with
    | none => simp only [Sem.run_bind, run_newObj_alloc, Result.andThen_ok, Sem.run_pure]
    | some x =>
      obtain ⟨k, n, rfl⟩ := hr x rfl
      simp only [Sem.run_bind, run_underlying hu, Result.andThen_ok, asInt, asIntOf, Sem.run_pure, run_newObj_alloc]
end run
section inv
variable {F : Fr} {w : World} {A : Nat → Prop} {X : Refs} {h : Hp}
def refsMap (w : World) (X : Refs) (h : Hp) (s : Nat) : Refs :=
  { D := X.D, N := X.N, M := fun s' i' => if s' = s ∧ i' = (h s).mps.length then w.heap.size else X.M s' i', K := fun s' => if s' = s then (h s).mps.length + 1 else X.K s' }
theorem Inv.newMap (hI : Inv F w A X h) (s : Nat) (sc : Bool) (d : List Int) :
    Later w A (w.alloc (.map #[] 0)) (fun b => A b ∨ b = w.heap.size) ∧ Xle X (refsMap w X h s) ∧ Inv F (w.alloc (.map #[] 0)) (fun b => A b ∨ b = w.heap.size) (refsMap w X h s) (mpush h s { sc := sc, d := d, es := [] }) ∧
      RV (w.alloc (.map #[] 0)) (fun b => A b ∨ b = w.heap.size) (refsMap w X h s) (.bmp s (h s).mps.length) (.map (some w.heap.size)) := by
  have hL := hI.later_alloc (.map #[] 0)
  have hK : Kle X (refsMap w X h s) := fun s' i' hi => by
    have := hI.mi.mb s'
    simp only [refsMap]
    constructor
    · split
      · rename_i e; subst e; omega
      · exact hi
    · rw [if_neg]; rintro ⟨rfl, rfl⟩; omega
  have hX : Xle X (refsMap w X h s) := ⟨fun _ _ hi => ⟨hi, .inl rfl⟩, hK⟩
  have hMs : ∀ s' i', i' < (h s').mps.length → (refsMap w X h s).M s' i' = X.M s' i' := fun s' i' hi => by
    simp only [refsMap]; rw [if_neg]; rintro ⟨rfl, rfl⟩; omega
  have get : ∀ {s' i' m'}, mget (mpush h s { sc := sc, d := d, es := [] }) s' i' = some m' → (mget h s' i' = some m' ∧ i' < (h s').mps.length) ∨ (s' = s ∧ i' = (h s).mps.length ∧ m' = { sc := sc, d := d, es := [] }) := by
    intro s' i' m' hg
    unfold mget mpush at hg
    split at hg
    · rename_i e; subst e
      simp only at hg
      by_cases hi : i' < (h s').mps.length
      · rw [List.getElem?_append_left hi] at hg; exact .inl ⟨hg, hi⟩
      · rw [List.getElem?_append_right (by omega)] at hg
        have : i' - (h s').mps.length = 0 := by
          have := (List.getElem?_eq_some_iff.1 hg).1; simp at this; omega
        rw [this] at hg
        simp at hg
        exact .inr ⟨rfl, by omega, hg.symm⟩
    · exact .inl ⟨hg, (List.getElem?_eq_some_iff.1 hg).1⟩
  refine ⟨hL, hX, ?_, ?_⟩
  · refine { gl := hI.gl.mono hL, abd := ?_, aold := ?_, akeep := ?_, os := hI.os, tape := hI.tape, output := hI.output, size := ?_, same := ?_, xle := hI.xle.trans hX, nb := fun s' => by rw [hnext_mpush]; exact hI.nb s', mi := ⟨?_, ?_, ?_⟩, blk := ?_, inj := ?_ }
    · rintro b (hb | rfl)
      · have := hI.abd b hb; simp; omega
      · simp
    · rintro b hb (h1 | rfl)
      · exact hI.aold b hb h1
      · have := hI.size; omega
    · intro b hb h1 h2; exact .inl (hI.akeep b hb h1 h2)
    · have := hI.size; simp; omega
    · intro b hb hM
      have := hI.size
      rw [Below.heap_alloc w _ b (by omega)]
      exact hI.same b hb hM
    · intro s'
      have := hI.mi.mb s'
      simp only [refsMap, mpush]
      split
      · rename_i e; subst e; simp
      · exact this
    · intro s' i' m' hg
      rcases get hg with ⟨hg, hi⟩ | ⟨rfl, rfl, rfl⟩
      · have k := hI.mi.mp s' i' m' hg
        obtain ⟨es, clk, k1, k2⟩ := k.ob
        have hlt := (Array.getElem?_eq_some_iff.1 k1).1
        rw [← hMs s' i' hi] at k1 hlt
        exact ⟨(hK s' i' k.hK).1, ⟨es, clk, by rw [Below.heap_alloc w _ _ hlt]; exact k1, k2⟩, by rw [hMs s' i' hi]; exact ⟨.inl k.own.1, k.own.2⟩⟩
      · have e : (refsMap w X h s').M s' (h s').mps.length = w.heap.size := by simp [refsMap]
        exact ⟨by simp [refsMap], ⟨#[], 0, by rw [e]; exact heap_alloc_new w _, rfl, by simp, by simp⟩, by rw [e]; exact ⟨.inr rfl, .inr hI.size⟩⟩
    · intro s1 i1 m1 s2 i2 m2 h1 h2 hh
      have old : ∀ {s' i' m'}, mget h s' i' = some m' → X.M s' i' < w.heap.size := fun hg => by
        obtain ⟨es, clk, k1, _⟩ := (hI.mi.mp _ _ _ hg).ob
        exact (Array.getElem?_eq_some_iff.1 k1).1
      rcases get h1 with ⟨g1, l1⟩ | ⟨rfl, rfl, rfl⟩ <;> rcases get h2 with ⟨g2, l2⟩ | ⟨e1, e2, _⟩
      · rw [hMs _ _ l1, hMs _ _ l2] at hh; exact hI.mi.inj _ _ _ _ _ _ g1 g2 hh
      · subst e1 e2
        have := old g1
        rw [hMs _ _ l1] at hh; simp [refsMap] at hh; omega
      · have := old g2
        rw [hMs _ _ l2] at hh; simp [refsMap] at hh; omega
      · subst e1; subst e2; exact ⟨rfl, rfl⟩
    · intro s' i' B hB
      rw [hget_mpush] at hB
      have ho := hI.blk s' i' B hB
      refine { hN := ho.hN, hz := ho.hz, hlen := ho.hlen, rows := ho.rows, mem := ?_ }
      rcases ho.mem with hm | ⟨arr, cap, h1, h2, h3, h4, h5, h6, h7, h8⟩
      · exact .inl hm
      · have hlt : (X.D s' i').b < w.heap.size := (Array.getElem?_eq_some_iff.1 h1).1
        refine .inr ⟨arr, cap, by rw [show (refsMap w X h s).D s' i' = X.D s' i' from rfl, Below.heap_alloc w _ _ hlt]; exact h1, h2, h3, h4, h5, ?_, ?_, ?_⟩
        · intro e j row c he hj
          obtain ⟨u, g1, g2, g3, g4⟩ := h6 e j row c he hj
          exact ⟨u, g1, g2, g3.mono hL hX, fun hcl => (g4 hcl).mono hL⟩
        · rintro hf (hb | hb)
          · exact h7 hf hb
          · have e : (refsMap w X h s).D s' i' = X.D s' i' := rfl
            rw [e] at hb; omega
        · intro hf; exact ⟨.inl (h8 hf).1, (h8 hf).2⟩
    · intro s1 i1 B1 s2 i2 B2 h1 h2 hr1 hr2 hh
      rw [hget_mpush] at h1 h2
      exact hI.inj s1 i1 B1 s2 i2 B2 h1 h2 hr1 hr2 hh
  · have := RV.bmp (w := w.alloc (.map #[] 0)) (A := fun b => A b ∨ b = w.heap.size) (X := refsMap w X h s) s (h s).mps.length (by simp [refsMap])
    have e : (refsMap w X h s).M s (h s).mps.length = w.heap.size := by simp [refsMap]
    rw [e] at this; exact this
theorem Inv.putMap (hI : Inv F w A X h) {s i : Nat} {m m' : Mp} (hg : mget h s i = some m) {es : Array MapEntry} {clk : Nat} (hm : MpOK es m') :
    Later w A (w.putObj (X.M s i) (.map es clk)) A ∧ Inv F (w.putObj (X.M s i) (.map es clk)) A X (mset h s i m') := by
  have hk := hI.mi.mp s i m hg
  obtain ⟨es0, clk0, k1, _⟩ := hk.ob
  have hlt := (Array.getElem?_eq_some_iff.1 k1).1
  have hoth : ∀ b, b ≠ X.M s i → (w.putObj (X.M s i) (.map es clk)).heap[b]? = w.heap[b]? := fun b hb => World.putObj_heap_other hb
  have hL : Later w A (w.putObj (X.M s i) (.map es clk)) A := ⟨by simp, fun b _ hA => ⟨hoth b (fun e => hA (e ▸ hk.own.1)), hA⟩⟩
  have get : ∀ {s' i' m1}, mget (mset h s i m') s' i' = some m1 → (s' = s ∧ i' = i ∧ m1 = m') ∨ (¬ (s' = s ∧ i' = i) ∧ mget h s' i' = some m1) := by
    intro s' i' m1 h1
    unfold mget mset at h1
    split at h1
    · rename_i e; subst e
      simp only [List.getElem?_set] at h1
      split at h1
      · rename_i e
        split at h1
        · cases h1; exact .inl ⟨rfl, e.symm, rfl⟩
        · cases h1
      · rename_i e; exact .inr ⟨fun hh => e hh.2.symm, h1⟩
    · rename_i e; exact .inr ⟨fun hh => e hh.1, h1⟩
  have getx : ∀ {s' i' m1}, mget (mset h s i m') s' i' = some m1 → ∃ m2, mget h s' i' = some m2 := fun h1 => by
    rcases get h1 with ⟨rfl, rfl, _⟩ | ⟨_, h2⟩
    · exact ⟨_, hg⟩
    · exact ⟨_, h2⟩
  refine ⟨hL, { gl := hI.gl.mono hL, abd := fun b hA => by have := hI.abd b hA; simpa using this, aold := hI.aold, akeep := hI.akeep, os := hI.os, tape := hI.tape, output := hI.output, size := by have := hI.size; simpa using this, same := ?_, xle := hI.xle, nb := fun s' => by rw [hnext_mset]; exact hI.nb s', mi := ⟨?_, ?_, ?_⟩, blk := ?_, inj := ?_ }⟩
  · intro b hb hM
    rw [hoth b (fun e => ?_)]
    · exact hI.same b hb hM
    · rcases hk.own.2 with h1 | h1
      · exact hM (e ▸ h1)
      · omega
  · intro s'
    have := hI.mi.mb s'
    unfold mset
    split
    · rename_i e; subst e; simpa using this
    · exact this
  · intro s' i' m1 h1
    rcases get h1 with ⟨rfl, rfl, rfl⟩ | ⟨hne, h2⟩
    · exact ⟨hk.hK, ⟨es, clk, World.putObj_heap_same hlt, hm⟩, hk.own⟩
    · have k := hI.mi.mp s' i' m1 h2
      obtain ⟨es1, clk1, k3, k4⟩ := k.ob
      refine ⟨k.hK, ⟨es1, clk1, ?_, k4⟩, k.own⟩
      rw [hoth _ (fun e => hne (hI.mi.inj _ _ _ _ _ _ h2 hg e))]; exact k3
  · intro s1 i1 m1 s2 i2 m2 h1 h2 hh
    obtain ⟨_, g1⟩ := getx h1
    obtain ⟨_, g2⟩ := getx h2
    exact hI.mi.inj _ _ _ _ _ _ g1 g2 hh
  · intro s' i' B hB
    rw [hget_mset] at hB
    have ho := hI.blk s' i' B hB
    refine { hN := ho.hN, hz := ho.hz, hlen := ho.hlen, rows := ho.rows, mem := ?_ }
    rcases ho.mem with hm | ⟨arr, cap, h1, h2, h3, h4, h5, h6, h7, h8⟩
    · exact .inl hm
    · refine .inr ⟨arr, cap, by rw [hoth _ (fun e => by rw [e, k1] at h1; cases h1)]; exact h1, h2, h3, h4, h5, ?_, h7, h8⟩
      intro e j row c he hj
      obtain ⟨u, g1, g2, g3, g4⟩ := h6 e j row c he hj
      exact ⟨u, g1, g2, g3.mono hL (Xle.refl X), fun hcl => (g4 hcl).mono hL⟩
  · intro s1 i1 B1 s2 i2 B2 h1 h2 hr1 hr2 hh
    rw [hget_mset] at h1 h2
    exact hI.inj s1 i1 B1 s2 i2 B2 h1 h2 hr1 hr2 hh
omit [Gls] in
theorem ints_val : ∀ {l : List Int} {us : List Value}, us.length = l.length → (∀ (i : Nat) (n : Int) (u : Value), l[i]? = some n → us[i]? = some u → u = .int .i64 n) → us = l.map fun n => Value.int .i64 n
  | [], [], _, _ => rfl
  | [], _ :: _, h, _ => by simp at h
  | _ :: _, [], h, _ => by simp at h
  | n :: l, u :: us, h, hk => by
    rw [hk 0 n u rfl rfl, ints_val (l := l) (us := us) (by simpa using h) fun i n' u' h1 h2 => hk (i + 1) n' u' (by simpa using h1) (by simpa using h2)]; rfl
omit [Gls] in
theorem RV.ints {l : List Int} {u : Value} (hr : RV w A X (.agg (l.map fun n => V.int .i64 n)) u) : u = .agg (l.map fun n => Value.int .i64 n).toArray := by
  obtain ⟨us, rfl, hl, hc⟩ := hr.agg_inv
  simp only [List.length_map] at hl
  congr 1
  apply Array.ext'
  refine ints_val (by simpa using hl) fun i n u h1 h2 => ?_
  have := hc i (.int .i64 n) (by rw [List.getElem?_map, h1]; rfl)
  have e : us.getD i und = u := by
    rw [Array.getD_eq_getD_getElem?, ← Array.getElem?_toList, h2]; rfl
  rw [e] at this
  exact this.int_inv
omit [Gls] in
theorem RV.key {a b c : Int} {u : Value} (hr : RV w A X (.agg [.int .i64 a, .int .i64 b, .int .i64 c]) u) : u = cvK (a, b, c) :=
  RV.ints (l := [a, b, c]) hr
omit [Gls] in
theorem xI_val {x : V} {u : Value} {sc : Bool} {l : List Int} (hr : RV w A X x u) (h : xI x = some (sc, l)) : u = cvX sc l := by
  unfold xI at h
  split at h
  · cases h; rw [hr.int_inv]; rfl
  · rename_i cs
    cases ha : allInts cs with
    | none => rw [ha] at h; cases h
    | some l' =>
      rw [ha] at h
      simp only [Option.map_some, Option.some.injEq, Prod.mk.injEq] at h
      obtain ⟨rfl, rfl⟩ := h
      rw [allInts_map ha] at hr
      exact hr.ints
  · cases h
omit [Gls] in
theorem xV_pv (sc : Bool) (l : List Int) : PV w A (xV sc l) (cvX sc l) := by
  cases sc with
  | true => exact .int _ _
  | false =>
    refine .agg _ _ (by simp) fun i c hc => ?_
    rw [List.getElem?_map] at hc
    cases hi : l[i]? with
    | none => rw [hi] at hc; cases hc
    | some n =>
      rw [hi] at hc
      simp only [Option.map_some, Option.some.injEq] at hc
      subst hc
      rw [Array.getD_eq_getD_getElem?, List.getElem?_toArray, List.getElem?_map, hi]
      exact .int _ _
variable {P : Program}
theorem sMkMap_sound (hI : Inv F w A X h) {key : Nat} {T : TypeId} {r : Option V} {ur : Option Value} (hr : ∀ y, ur = some y → ∃ x, r = some x ∧ RV w A X x y) (hc : (sMkMap P key T r h).c) :
    ∃ v w' A' X', (Instr.makeMap T ur).run P w = .ok v w' ∧ Later w A w' A' ∧ Xle X X' ∧ Inv F w' A' X' (sMkMap P key T r h).h ∧ RV w' A' X' (sMkMap P key T r h).v v := by
  unfold sMkMap at hc ⊢
  cases hz : (mpEl P T).bind fun p => zMp P p.2 with
  | none => simp [hz, bad] at hc
  | some z =>
    simp only [hz] at hc ⊢
    have hrun := run_mkMap (w := w) hz ur fun y hy => by
      obtain ⟨x, hx, hxy⟩ := hr y hy
      subst hx
      cases x <;> simp only at hc
      exact ⟨_, _, hxy.int_inv⟩
    obtain ⟨h1, h2, h3, h4⟩ := hI.newMap key z.1 z.2
    exact ⟨_, _, _, _, hrun, h1, h2, h3, h4⟩
theorem sLook_sound (hI : Inv F w A X h) {T : TypeId} {m k : V} {um uk : Value} (hm : RV w A X m um) (hk : RV w A X k uk) {ok : Bool} (hc : (sLook P T m k ok h).c) :
    ∃ v, (Instr.lookup T um uk ok).run P w = .ok v w ∧ RV w A X (sLook P T m k ok h).v v := by
  unfold sLook at hc ⊢
  split at hc
  · rename_i p a b c M hp hM
    obtain ⟨kt, et⟩ := p
    obtain ⟨hK, hkr, hz⟩ := hc
    have core : ∃ r es clk, um = .map (some r) ∧ w.heap[r]? = some (Obj.map es clk) ∧ MpOK es M := by
      cases m <;> simp only [mpV, Option.some.injEq, reduceCtorEq] at hM
      case bmp s i =>
        obtain ⟨rfl, _⟩ := hm.bmp_inv
        obtain ⟨es, clk, k1, k2⟩ := (hI.mi.mp s i M hM).ob
        exact ⟨_, es, clk, rfl, k1, k2⟩
      case mpi m =>
        subst hM
        obtain ⟨r, es, clk, rfl, k1, _, k2⟩ := hm.mpi_inv
        exact ⟨r, es, clk, rfl, k1, k2⟩
    obtain ⟨r, es, clk, rfl, k1, k2⟩ := core
    rw [hk.key]
    refine ⟨_, run_look hp hK hz k1 k2 (a, b, c) hkr ok, ?_⟩
    cases ok with
    | false => exact .pure (xV_pv _ _)
    | true =>
      refine .pure (.tup _ _ rfl fun i x hx => ?_)
      match i, hx with
      | 0, hx => simp at hx; subst hx; exact xV_pv _ _
      | 1, hx => simp at hx; subst hx; exact .bool _
  · exact hc.elim
theorem sMapSet_sound (hI : Inv F w A X h) {T : TypeId} {m k x : V} {um uk ux : Value} (hm : RV w A X m um) (hk : RV w A X k uk) (hx : RV w A X x ux) (hc : (sMapSet P T m k x h).c) :
    ∃ w', (Instr.mapUpdate T um uk ux).run P w = .ok () w' ∧ Later w A w' A ∧ Inv F w' A X (sMapSet P T m k x h).h := by
  unfold sMapSet at hc ⊢
  split at hc
  · rename_i p a b c s i y hp hy
    obtain ⟨kt, et⟩ := p
    obtain ⟨sc, l⟩ := y
    cases hM : mget h s i with
    | none => simp [hM, bad] at hc
    | some M =>
      simp only [hM] at hc
      obtain ⟨hK, hkr, he, _⟩ := hc
      have he : sc = M.sc := he
      subst he
      obtain ⟨rfl, _⟩ := hm.bmp_inv
      obtain ⟨es, clk, k1, k2⟩ := (hI.mi.mp s i M hM).ob
      rw [hk.key, xI_val hx hy]
      obtain ⟨es', clk', r1, r2⟩ := run_mput hp hK k1 k2 (a, b, c) hkr l
      obtain ⟨h1, h2⟩ := hI.putMap hM (es := es') (clk := clk') r2
      refine ⟨_, r1, h1, ?_⟩
      exact h2
  · exact hc.elim
end inv
end Go.Sx
