/- Spans: what is left of a box of two spans without another one, as it is yielded. No conditions. -/
import Derived.Test.YtomgmojjdgiieaaGreatP26
set_option linter.unusedSimpArgs false
set_option linter.unusedVariables false
set_option linter.unusedSectionVars false
set_option linter.unusedSimpArgs false
set_option linter.unusedSectionVars false
set_option maxRecDepth 100000
set_option maxHeartbeats 8000000
namespace Go.Sx
open Go.Proofs
attribute [local irreducible] HLe
attribute [local simp] hps_app
structure Bx where
  a : Sp
  b : Sp
  deriving Inhabited
def bxV (x : Bx) : List V := [.sl 2 [x.a.row, x.b.row]]
theorem bxV_inj (x y : Bx) (h : bxV x = bxV y) : x = y := by
  obtain ⟨a, b⟩ := x; obtain ⟨c, d⟩ := y
  simp only [bxV, List.cons.injEq, V.sl.injEq, true_and, and_true] at h
  rw [Sp.row_inj _ _ h.1, Sp.row_inj _ _ h.2]
def cl2S : HSpec where
  go args h := match args with
    | [.sl z els] => ⟨z = 2 ∧ els.length = 2, .osl 7307 (hnext h 7307) 2 0 2 2, hpush h 7307 { z := 2, els := els, ty := 31 }⟩
    | [.osl s i n off len cap] => match hget h s i with
      | some B => ⟨(B.z = 2 ∧ B.els.length = 2) ∧ (B.cl = true ∧ s ≠ 999999999) ∧ n = 2 ∧ off = 0 ∧ len = 2 ∧ cap = 2, .osl 7307 (hnext h 7307) 2 0 2 2, hpush h 7307 { z := 2, els := B.els, ty := 31 }⟩
      | none => ⟨False, .top, h⟩
    | _ => ⟨False, .top, h⟩
theorem cl2_inv {args : List V} {h : Hp} (hc : (cl2S.go args h).c) : (∃ els, args = [.sl 2 els] ∧ els.length = 2 ∧ cl2S.go args h = ⟨True, .osl 7307 (hnext h 7307) 2 0 2 2, hpush h 7307 { z := 2, els := els, ty := 31 }⟩) ∨
    ∃ s i els ty fz, args = [.osl s i 2 0 2 2] ∧ hget h s i = some { z := 2, els := els, ty := ty, fz := fz, cl := true } ∧ els.length = 2 ∧ s ≠ 999999999 ∧ cl2S.go args h = ⟨True, .osl 7307 (hnext h 7307) 2 0 2 2, hpush h 7307 { z := 2, els := els, ty := 31 }⟩ := by
  match args, hc with
  | [.sl z els], hc =>
    have hc : z = 2 ∧ els.length = 2 := hc
    obtain ⟨rfl, h2⟩ := hc
    exact .inl ⟨els, rfl, h2, by simp [cl2S, h2]⟩
  | [.osl s i n off len cap], hc =>
    cases hB : hget h s i with
    | none => simp [cl2S, hB] at hc
    | some B =>
      obtain ⟨z, els, ty, fz, cl⟩ := B
      have hc : (z = 2 ∧ els.length = 2) ∧ (cl = true ∧ s ≠ 999999999) ∧ n = 2 ∧ off = 0 ∧ len = 2 ∧ cap = 2 := by simpa only [cl2S, hB] using hc
      obtain ⟨⟨rfl, h2⟩, ⟨rfl, h5⟩, rfl, rfl, rfl, rfl⟩ := hc
      exact .inr ⟨s, i, els, ty, fz, rfl, hB, h2, h5, by simp [cl2S, hB, h2, h5]⟩
noncomputable abbrev E73 : Env := { P := Tryz.prog, fn := tbl [], own := [500005], key := 7300, nt := 8 }
theorem b73 : HeapBody E73 [] Tryz.f73 cl2S := by
  intro args h hc
  rcases cl2_inv hc with ⟨els, rfl, h1, hgo⟩ | ⟨s, i, els, ty, fz, rfl, hB, h1, hs, hgo⟩
  · rw [hgo]
    clear hgo hc
    obtain ⟨r, r', rfl⟩ : ∃ r r', els = [r, r'] := by
      match els, h1 with
      | [r, r'], _ => exact ⟨r, r', rfl⟩
    simp -dsimp [Tryz.f73, E73]
    repeat' (first | omega | (simp -dsimp [E73, ri, cellp, ints, *]) | (refine Also.intro ?_ fun _ => ?_) | (refine Hold.intro fun _ => ?_) | (refine And.intro ?_ ?_))
    exact HLe.refl _
  · rw [hgo]
    clear hgo hc
    obtain ⟨r, r', rfl⟩ : ∃ r r', els = [r, r'] := by
      match els, h1 with
      | [r, r'], _ => exact ⟨r, r', rfl⟩
    simp -dsimp [Tryz.f73, E73]
    repeat' (first | omega | (simp -dsimp [E73, ri, cellp, ints, hB]) | (refine Also.intro ?_ fun _ => ?_) | (refine Hold.intro fun _ => ?_) | (refine And.intro ?_ ?_))
    exact HLe.refl _
theorem ok73 : FnOK Tryz.prog 73 (.heap cl2S) := heap_fn (E := E73) rfl LOK.nil (ok := []) (fn := Tryz.f73) (by kernel_rfl) (by kernel_rfl) (by kernel_rfl) (by kernel_rfl) rfl (fun args h hc => by rcases cl2_inv hc with ⟨els, rfl, _⟩ | ⟨s, i, els, ty, fz, rfl, _⟩ <;> simp) b73
@[simp] def miA (d : Bx × Bx) : List V := [.sl 2 [d.1.a.row, d.1.b.row], .sl 2 [d.2.a.row, d.2.b.row]]
theorem miA_inj (a b : Bx × Bx) (h : miA a = miA b) : a = b := by
  obtain ⟨⟨a1, a2⟩, ⟨a3, a4⟩⟩ := a; obtain ⟨⟨b1, b2⟩, ⟨b3, b4⟩⟩ := b
  simp only [miA, List.cons.injEq, V.sl.injEq, true_and, and_true] at h
  rw [Sp.row_inj _ _ h.1.1, Sp.row_inj _ _ h.1.2, Sp.row_inj _ _ h.2.1, Sp.row_inj _ _ h.2.2]
theorem miA_dec (a b : Bx) : decC miA [.sl 2 [[.int .i64 a.a.lo, .int .i64 a.a.hi], [.int .i64 a.b.lo, .int .i64 a.b.hi]], .sl 2 [[.int .i64 b.a.lo, .int .i64 b.a.hi], [.int .i64 b.b.lo, .int .i64 b.b.hi]]] = (a, b) := decC_eq miA_inj (a, b)
def miE (d : Bx × Bx) : List V := [.ip 1 [[.sl 2 [d.1.a.row, d.1.b.row]]] 0 0, .ip 1 [[.sl 2 [d.2.a.row, d.2.b.row]]] 0 0]
theorem miE_inj (a b : Bx × Bx) (h : miE a = miE b) : a = b := by
  obtain ⟨⟨a1, a2⟩, ⟨a3, a4⟩⟩ := a; obtain ⟨⟨b1, b2⟩, ⟨b3, b4⟩⟩ := b
  simp only [miE, List.cons.injEq, V.ip.injEq, V.sl.injEq, true_and, and_true] at h
  rw [Sp.row_inj _ _ h.1.1, Sp.row_inj _ _ h.1.2, Sp.row_inj _ _ h.2.1, Sp.row_inj _ _ h.2.2]
noncomputable abbrev mi2S : PSpec := mkP miA (fun _ => True) fun d => .fn 72 (miE d)
noncomputable abbrev E40 : Env := { P := Tryz.prog, fn := tbl [], own := [], key := 4000, nt := 6, frz := [(1, [2, 50002, 3, 50003])] }
theorem b40 : PureBody E40 [] Tryz.f40 mi2S := by
  refine pb ?_
  rintro ⟨a, b⟩ _
  simp -dsimp [Tryz.f40, E40, Sp.row, miE]
  repeat' (first | omega | (simp -dsimp [E40, ri, cellp, ints, Sp.row, miE]) | (refine Also.intro ?_ fun _ => ?_) | (refine Hold.intro fun _ => ?_) | (refine And.intro ?_ ?_))
theorem ok40 : FnOK Tryz.prog 40 (.pure mi2S) := pure_fn (E := E40) rfl LOK.nil (ok := []) (fn := Tryz.f40) (by kernel_rfl) (by kernel_rfl) (by kernel_rfl) (by kernel_rfl) rfl (fun _ _ => by simp) b40
def pX (a b : Sp) : Int := if b.lo - 1 < a.hi then b.lo - 1 else a.hi
def pY (a b : Sp) : Int := if a.lo < b.hi + 1 then b.hi + 1 else a.lo
def pU (a b : Sp) : Int := if a.lo < b.lo then b.lo else a.lo
def pW (a b : Sp) : Int := if b.hi < a.hi then b.hi else a.hi
def q1 (a b : Sp) : List Sp := if a.lo ≤ pX a b then [⟨a.lo, pX a b⟩] else []
def q2 (a b : Sp) : List Sp := if pY a b ≤ a.hi then [⟨pY a b, a.hi⟩] else []
def mnB1 (l b : Bx) : List Bx := (q1 l.b b.b).map (Bx.mk l.a) ++ ((q2 l.b b.b).map (Bx.mk l.a) ++ [])
def mnT (l b : Bx) : List Bx := if pW l.a b.a < pU l.a b.a then [] else mnB1 ⟨⟨pU l.a b.a, pW l.a b.a⟩, l.b⟩ b
def mns2 (l b : Bx) : List Bx := (q1 l.a b.a).map (Bx.mk · l.b) ++ ((q2 l.a b.a).map (Bx.mk · l.b) ++ mnT l b)
structure Bnd (s : Sp) : Prop where
  l : -2000000 ≤ s.lo ∧ s.lo ≤ 2000000
  h : -2000000 ≤ s.hi ∧ s.hi ≤ 2000000
structure Bn2 (x : Bx) : Prop where
  a : Bnd x.a
  b : Bnd x.b
structure BndP (d : Bx × Bx) : Prop where
  a : Bn2 d.1
  b : Bn2 d.2
open Classical in
noncomputable def mnDec (caps : List V) (_ : Hp) : Prop × List (List V) := if x : ∃ d, caps = miE d then (BndP x.choose, (mns2 x.choose.1 x.choose.2).map bxV) else (False, [])
theorem mnDec_at (d : Bx × Bx) (h : Hp) : mnDec (miE d) h = (BndP d, (mns2 d.1 d.2).map bxV) := by
  have hx : ∃ d', miE d = miE d' := ⟨d, rfl⟩
  have e : hx.choose = d := (miE_inj _ _ hx.choose_spec).symm
  simp only [mnDec, dif_pos hx, e]
theorem mnDec_inv {caps : List V} {h : Hp} (hc : (mnDec caps h).1) : ∃ d, caps = miE d ∧ BndP d ∧ (mnDec caps h).2 = (mns2 d.1 d.2).map bxV := by
  simp only [mnDec] at hc ⊢
  by_cases hx : ∃ d, caps = miE d
  · rw [dif_pos hx] at hc ⊢
    exact ⟨_, hx.choose_spec, hc, rfl⟩
  · rw [dif_neg hx] at hc; exact hc.elim
noncomputable def mnI : Nat → HSpec → HSpec := itS [7207, 7307] [] mnDec
theorem mnI_inv {l : Nat} {Y : HSpec} {args : List V} {h : Hp} (hc : ((mnI l Y).go args h).c) : ∃ d, args = .yld l :: miE d ∧ Loc Y [7207, 7307] [] ∧ (∀ k ∈ [7207, 7307], h k = { base := (h k).base, blks := [] }) ∧ BndP d ∧ (feed Y ((mns2 d.1 d.2).map bxV) h).1 ∧
    ((mnI l Y).go args h).v = .tup [] ∧ ((mnI l Y).go args h).h = hps ([7207, 7307].map fun k => (k, { base := (h k).base + 1000000, blks := [] })) (feed Y ((mns2 d.1 d.2).map bxV) h).2 := by
  obtain ⟨caps, rfl, h2, h3, h4, h5, h6, h7⟩ := its_inv hc
  obtain ⟨d, rfl, k1, k2⟩ := mnDec_inv h4
  rw [k2] at h5 h7
  exact ⟨d, rfl, h2, h3, k1, h5, h6, h7⟩
theorem kpMn : ∀ f S, tbl [(73, .heap cl2S)] f = some (.heap S) → ∀ args h, (S.go args h).c → (h YS).blks = [] → (S.go args h).h YS = h YS := by
  intro f S hf args h hc hy
  simp only [tbl_cons, tbl_nil] at hf
  split at hf
  · cases hf
    rcases cl2_inv hc with ⟨els, _, _, hgo⟩ | ⟨s, i, els, ty, fz, _, _, _, _, hgo⟩ <;> rw [hgo] <;> dsimp only <;> exact hpush_ys _ (by decide) _
  · cases hf
theorem cl2_1 (L : List (Nat × Site)) (H : Hp) (r r' : List V) : cl2S.go [.sl 2 [r, r']] (hps L H) = ⟨True, .osl 7307 (hnext (hps L H) 7307) 2 0 2 2, hpush (hps L H) 7307 { z := 2, els := [r, r'], ty := 31 }⟩ := by
  simp [cl2S]
theorem cl2_2 (S : Site) (L : List (Nat × Site)) (H : Hp) (b : Nat) (r r' : List V) (R : List Blk) : cl2S.go [.osl 7307 b 2 0 2 2] (hps ((7207, S) :: (7307, { base := b, blks := { z := 2, els := [r, r'], ty := 31 } :: R }) :: L) H) = ⟨True, .osl 7307 (b + (R.length + 1)) 2 0 2 2, hps ((7307, { base := b, blks := { z := 2, els := [r, r'], ty := 31 } :: (R ++ [{ z := 2, els := [r, r'], ty := 31 }]) }) :: (7207, S) :: (7307, { base := b, blks := { z := 2, els := [r, r'], ty := 31 } :: R }) :: L) H⟩ := by
  simp [cl2S, hget_hps, hnext, hpush_hps]
theorem st_end (ds : List Blk) (B B' : Blk) : (ds ++ [B]).set ds.length B' = ds ++ [B'] := by simp
def mnKk (b : Bx) : Nat → Bx → List Bx
  | 0, l => mns2 l b
  | 1, l => mnB1 l b
  | _, _ => []
structure MnQ (Y : HSpec) (FH : Hp) (b : Bx) (b1 : Nat) where
  k : Nat
  H : Hp
  c : Nat
  l : Bx
  ds : List Blk
  hk : k ≤ 2
  hl : Bn2 l
  hf : (feed Y ((mnKk b k l).map bxV) H).1 ∧ (feed Y ((mnKk b k l).map bxV) H).2 = FH
  hc : c ≤ b1 + 2 * k
  hd : ds.length ≤ 2 * k
def rR (Q1 Q2 T : List Bx) : Nat → List Bx
  | 0 => Q1 ++ (Q2 ++ T)
  | 1 => Q2 ++ T
  | _ => T
structure MnO (Y : HSpec) (FH : Hp) (Q1 Q2 T : List Bx) (c0 n0 : Nat) where
  i : Nat
  H : Hp
  c : Nat
  ds : List Blk
  hi : i ≤ 2
  hf : (feed Y ((rR Q1 Q2 T i).map bxV) H).1 ∧ (feed Y ((rR Q1 Q2 T i).map bxV) H).2 = FH
  hc : c ≤ c0 + i
  hd : ds.length ≤ n0 + i
def mnB (x : Bx) : Blk := { z := 2, els := [x.a.row, x.b.row], ty := 31, fz := true }
noncomputable abbrev E72 : Env := { P := Tryz.prog, fn := tbl [(73, .heap cl2S)], own := [], key := 7200, nt := 114, frz := [(10, [66, 50008])] }
theorem b72 : IterBody E72 [] Tryz.f72 mnI := by
  intro l Y args h hc hyb hyf
  obtain ⟨⟨a, b⟩, rfl, hloc, hfr, ⟨hab, hbb⟩, hfd, hv, hh⟩ := mnI_inv hc
  simp only at hab hbb
  obtain ⟨⟨⟨b11, b12⟩, b13, b14⟩, ⟨b21, b22⟩, b23, b24⟩ := hbb
  rw [hv, hh]
  clear hv hh hc
  have f1 := hfr 7207 (by simp)
  have f2 := hfr 7307 (by simp)
  obtain ⟨FH, hFH⟩ : ∃ FH, (feed Y ((mns2 a b).map bxV) h).2 = FH := ⟨_, rfl⟩
  rw [hFH]
  simp only [List.map_cons, List.map_nil]
  generalize hb1 : (h 7207).base = b1 at *
  generalize hb2 : (h 7307).base = b2 at *
  have hself : hps [(7207, { base := b1, blks := [] }), (7307, { base := b2, blks := [] })] h = h := hps_self (by
    intro k hk
    simp at hk
    rcases hk with rfl | rfl
    · rw [f1]; rfl
    · rw [f2]; rfl)
  rw [← hself]
  simp -dsimp [Tryz.f72, E72, miE, Sp.row]
  repeat' (first | omega | (simp -dsimp [E72, ri, cellp, ints, miE, Sp.row, cl2_1]) | (refine Also.intro ?_ fun _ => ?_) | (refine Hold.intro fun _ => ?_) | (refine And.intro ?_ ?_))
  refine awp_loop [14, 15, 5, 16, 17, 18, 19, 20, 21, 22, 23, 24, 25, 26, 27, 28, 29, 30, 31, 32, 33, 34, 35, 36, 37, 38, 39, 40, 41, 42, 43, 44, 45, 46, 47, 48, 49, 50, 51, 52, 53, 54, 55, 7, 56, 57, 58, 59, 60, 61, 62, 8, 63, 64, 65, 66, 67, 68, 69, 70, 71, 72, 73, 74, 75, 76, 77, 78, 79, 80, 81, 82, 83, 84, 85, 86, 87, 88, 89, 90, 91, 92, 93, 94, 95, 96, 97, 98, 99, 100, 101, 102, 103, 104, 105, 106, 107, 108, 109, 110, 111, 112, 113, 13] (fun q : MnQ Y FH b b1 => [(13, (true, .int .i64 (q.k : Nat)))])
    (fun q => hps [(7207, { base := q.c, blks := [] }), (7307, { base := b2, blks := { z := 2, els := [q.l.a.row, q.l.b.row], ty := 31 } :: q.ds })] q.H) (fun q => 2 - q.k) { k := 0, H := h, c := b1, l := a, ds := [], hk := by omega, hl := hab, hf := ⟨hfd, hFH⟩, hc := by omega, hd := by simp } ?_ ?_ ?_
  · simp [okAll, okv]
  · exact (by (try simp -dsimp only [hpush_noH, hpush_hps, hps_over]); refine hle_hpsb ?_; simp -dsimp [allK, Sp.row]; repeat' (first | (refine And.intro ?_ ?_) | (refine sLe.same ?_ ?_ <;> (simp; done)) | (refine sLe.clear ?_ ?_ <;> (first | (simp; done) | (simp; omega))) | (refine sLe.drop 1 ?_ ?_ ?_ <;> (simp; done))))
  clear hfd hFH hab f1 f2 hfr
  rintro ⟨k, H, c, l', ds, hk, hlb, ⟨hfd, hFH⟩, hcb, hdb⟩
  dsimp only
  have hkr : k = 2 ∨ k = 0 ∨ k = 1 := by omega
  have wone : IntKind.wrap .i64 1 = 1 := wrap_id (by omega) (by omega)
  have wtwo : IntKind.wrap .i64 2 = 2 := wrap_id (by omega) (by omega)
  have wtwo' : IntKind.wrap .i64 (1 + 1) = 2 := wrap_id (by omega) (by omega)
  obtain ⟨⟨⟨b31, b32⟩, b33, b34⟩, ⟨b41, b42⟩, b43, b44⟩ := hlb
  rcases hkr with rfl | rfl | rfl
  · have hFH : H = FH := hFH
    subst hFH
    simp -dsimp []
    repeat' (first | omega | (simp -dsimp [E72, ri, cellp, ints, *]) | (refine Also.intro ?_ fun _ => ?_) | (refine Hold.intro fun _ => ?_) | (refine And.intro ?_ ?_))
    exact (by (try simp -dsimp only [hpush_noH, hpush_hps, hps_over]); refine hle_hpsb ?_; simp -dsimp [allK, ]; repeat' (first | (refine And.intro ?_ ?_) | (refine sLe.same ?_ ?_ <;> (simp; done)) | (refine sLe.clear ?_ ?_ <;> (first | (simp; done) | (simp; omega))) | (refine sLe.drop 1 ?_ ?_ ?_ <;> (simp; done))))
  · have w1 : IntKind.wrap .i64 (b.a.lo - 1) = b.a.lo - 1 := wrap_id (by omega) (by omega)
    have w2 : IntKind.wrap .i64 (b.a.hi + 1) = b.a.hi + 1 := wrap_id (by omega) (by omega)
    obtain ⟨x, hx⟩ : ∃ x, pX l'.a b.a = x := ⟨_, rfl⟩
    obtain ⟨y, hy⟩ : ∃ y, pY l'.a b.a = y := ⟨_, rfl⟩
    have hx' : (if b.a.lo - 1 < l'.a.hi then b.a.lo - 1 else l'.a.hi) = x := hx
    have hy' : (if l'.a.lo < b.a.hi + 1 then b.a.hi + 1 else l'.a.lo) = y := hy
    have e1 : (q1 l'.a b.a).map (Bx.mk · l'.b) = if l'.a.lo ≤ x then [⟨⟨l'.a.lo, x⟩, l'.b⟩] else [] := by rw [q1, hx]; split <;> rfl
    have e2 : (q2 l'.a b.a).map (Bx.mk · l'.b) = if y ≤ l'.a.hi then [⟨⟨y, l'.a.hi⟩, l'.b⟩] else [] := by rw [q2, hy]; split <;> rfl
    simp -dsimp []
    repeat' (first | omega | (simp -dsimp [E72, ri, cellp, ints, w1, w2, hx', hy', Sp.row]) | (refine Also.intro ?_ fun _ => ?_) | (refine Hold.intro fun _ => ?_) | (refine And.intro ?_ ?_))
    refine awp_loop [54, 55, 7, 56, 57, 58, 59, 60, 61, 62, 8, 63, 64, 65, 66, 67, 68, 69, 70, 71, 53] (fun q : MnO Y FH ((q1 l'.a b.a).map (Bx.mk · l'.b)) ((q2 l'.a b.a).map (Bx.mk · l'.b)) (mnT l' b) c ds.length => [(53, (true, .int .i64 (q.i : Nat)))])
      (fun q => hps [(7207, { base := q.c, blks := [] }), (7307, { base := b2, blks := { z := 2, els := [l'.a.row, l'.b.row], ty := 31 } :: q.ds })] q.H) (fun q => 2 - q.i) { i := 0, H := H, c := c, ds := ds, hi := by omega, hf := ⟨hfd, hFH⟩, hc := by omega, hd := by omega } ?_ ?_ ?_
    · simp [okAll, okv]
    · exact (by (try simp -dsimp only [hpush_noH, hpush_hps, hps_over]); refine hle_hpsb ?_; simp -dsimp [allK, Sp.row]; repeat' (first | (refine And.intro ?_ ?_) | (refine sLe.same ?_ ?_ <;> (simp; done)) | (refine sLe.clear ?_ ?_ <;> (first | (simp; done) | (simp; omega))) | (refine sLe.drop 1 ?_ ?_ ?_ <;> (simp; done))))
    clear hfd hFH
    rintro ⟨i, H', c', ds', hi, ⟨hfd', hFH'⟩, hcc, hdd⟩
    dsimp only
    have hir : i = 2 ∨ i = 0 ∨ i = 1 := by omega
    rcases hir with rfl | rfl | rfl
    · obtain ⟨u, hu⟩ : ∃ u, pU l'.a b.a = u := ⟨_, rfl⟩
      obtain ⟨v, hv⟩ : ∃ v, pW l'.a b.a = v := ⟨_, rfl⟩
      have hu' : (if l'.a.lo < b.a.lo then b.a.lo else l'.a.lo) = u := hu
      have hv' : (if b.a.hi < l'.a.hi then b.a.hi else l'.a.hi) = v := hv
      have hub : -2000000 ≤ u ∧ u ≤ 2000000 := by rw [← hu']; split <;> omega
      have hvb : -2000000 ≤ v ∧ v ≤ 2000000 := by rw [← hv']; split <;> omega
      by_cases huv : v < u
      · have hT : mnT l' b = [] := by rw [mnT, hu, hv, if_pos huv]
        have hfe : feed Y ((mnT l' b).map bxV) H' = (True, H') := by rw [hT]; rfl
        have hFH' : (feed Y ((mnT l' b).map bxV) H').2 = FH := hFH'
        rw [hfe] at hFH'
        subst hFH'
        simp -dsimp []
        repeat' (first | omega | (simp -dsimp [E72, ri, cellp, ints, hu', hv', huv, wone, Sp.row]) | (refine Also.intro ?_ fun _ => ?_) | (refine Hold.intro fun _ => ?_) | (refine And.intro ?_ ?_))
        exact (by (try simp -dsimp only [hpush_noH, hpush_hps, hps_over]); refine hle_hpsb ?_; simp -dsimp [allK, ]; repeat' (first | (refine And.intro ?_ ?_) | (refine sLe.same ?_ ?_ <;> (simp; done)) | (refine sLe.clear ?_ ?_ <;> (first | (simp; done) | (simp; omega))) | (refine sLe.drop 1 ?_ ?_ ?_ <;> (simp; done))))
      · have huv' : (v < u) = False := eq_false huv
        have hT : mnT l' b = mnB1 ⟨⟨u, v⟩, l'.b⟩ b := by rw [mnT, hu, hv, if_neg huv]
        have hF1 : (feed Y ((mnT l' b).map bxV) H').1 ∧ (feed Y ((mnT l' b).map bxV) H').2 = FH := ⟨hfd', hFH'⟩
        rw [hT] at hF1
        simp -dsimp []
        repeat' (first | omega | (simp -dsimp [E72, ri, cellp, ints, hu', hv', huv', wone, Sp.row]) | (refine Also.intro ?_ fun _ => ?_) | (refine Hold.intro fun _ => ?_) | (refine And.intro ?_ ?_))
        refine ⟨{ k := 1, H := H', c := c', l := ⟨⟨u, v⟩, l'.b⟩, ds := ds', hk := by omega, hl := ⟨⟨hub, hvb⟩, ⟨⟨b41, b42⟩, b43, b44⟩⟩, hf := hF1, hc := by omega, hd := by omega }, tle_kept (kept_upds rfl (kept_forget rfl (kept_upds rfl kept_base))) ?_, (by (try simp -dsimp only [hpush_noH, hpush_hps, hps_over]); refine hle_hpsb ?_; simp -dsimp [allK, Sp.row]; repeat' (first | (refine And.intro ?_ ?_) | (refine sLe.same ?_ ?_ <;> (simp; done)) | (refine sLe.clear ?_ ?_ <;> (first | (simp; done) | (simp; omega))) | (refine sLe.drop 1 ?_ ?_ ?_ <;> (simp; done)))), by simp⟩
        simp [okAll, okv]
    · have hF0 : (feed Y (((q1 l'.a b.a).map (Bx.mk · l'.b) ++ ((q2 l'.a b.a).map (Bx.mk · l'.b) ++ mnT l' b)).map bxV) H').1 ∧ (feed Y (((q1 l'.a b.a).map (Bx.mk · l'.b) ++ ((q2 l'.a b.a).map (Bx.mk · l'.b) ++ mnT l' b)).map bxV) H').2 = FH := ⟨hfd', hFH'⟩
      rw [e1] at hF0
      by_cases hc : l'.a.lo ≤ x
      case neg =>
        rw [if_neg hc, List.nil_append] at hF0
        have hc' : (x < l'.a.lo) = True := eq_true (by omega)
        simp -dsimp []
        repeat' (first | omega | (simp -dsimp [E72, ri, cellp, ints, hc', wone]) | (refine Also.intro ?_ fun _ => ?_) | (refine Hold.intro fun _ => ?_) | (refine And.intro ?_ ?_))
        refine ⟨{ i := 1, H := H', c := c' + 1, ds := ds', hi := by omega, hf := hF0, hc := by omega, hd := by omega }, tle_chain rfl ?_, (by (try simp -dsimp only [hpush_noH, hpush_hps, hps_over]); refine hle_hpsb ?_; simp -dsimp [allK, Sp.row]; repeat' (first | (refine And.intro ?_ ?_) | (refine sLe.same ?_ ?_ <;> (simp; done)) | (refine sLe.clear ?_ ?_ <;> (first | (simp; done) | (simp; omega))) | (refine sLe.drop 1 ?_ ?_ ?_ <;> (simp; done)))), by simp⟩
        simp [okAll, okv, wone]
      rw [if_pos hc, List.cons_append, List.nil_append, List.map_cons] at hF0
      have hc' : (x < l'.a.lo) = False := eq_false (by omega)
      obtain ⟨hF1, hF2⟩ := hF0
      obtain ⟨hyc, bb, hyv, ht, hf⟩ := feed_step hF1
      obtain ⟨H2, hH2⟩ : ∃ H2, (Y.go (bxV ⟨⟨l'.a.lo, x⟩, l'.b⟩) H').h = H2 := ⟨_, rfl⟩
      rw [hH2] at hf ht
      have hgo : ∀ S1 S2 S3, Y.go (bxV ⟨⟨l'.a.lo, x⟩, l'.b⟩) (hps [(7307, S1), (7207, S2), (7307, S3)] H') = ⟨True, .bool bb, hps [(7307, S1), (7207, S2), (7307, S3)] H2⟩ := fun S1 S2 S3 => by
        have := hloc.go hyc hyv [(7307, S1), (7207, S2), (7307, S3)]
        rw [hH2] at this; exact this
      simp only [bxV, Sp.row] at hgo
      have hlt : (b2 + (ds'.length + 1) < b2) = False := eq_false (by omega)
      have hsub : b2 + (ds'.length + 1) - b2 = ds'.length + 1 := by omega
      cases bb with
      | false =>
        rw [hf rfl] at hF2
        subst hF2
        simp -dsimp []
        repeat' (first | omega | (simp -dsimp [E72, ri, cellp, ints, hc', wone, cl2_2, hgo, hlt, hsub, st_end, Sp.row]) | (refine Also.intro ?_ fun _ => ?_) | (refine Hold.intro fun _ => ?_) | (refine And.intro ?_ ?_))
        exact (by (try simp -dsimp only [hpush_noH, hpush_hps, hps_over]); refine hle_hpsb ?_; simp -dsimp [allK, ]; repeat' (first | (refine And.intro ?_ ?_) | (refine sLe.same ?_ ?_ <;> (simp; done)) | (refine sLe.clear ?_ ?_ <;> (first | (simp; done) | (simp; omega))) | (refine sLe.drop 1 ?_ ?_ ?_ <;> (simp; done))))
      | true =>
        obtain ⟨hf1, hf2⟩ := ht rfl
        rw [hf2] at hF2
        simp -dsimp []
        repeat' (first | omega | (simp -dsimp [E72, ri, cellp, ints, hc', wone, cl2_2, hgo, hlt, hsub, st_end, Sp.row]) | (refine Also.intro ?_ fun _ => ?_) | (refine Hold.intro fun _ => ?_) | (refine And.intro ?_ ?_))
        refine ⟨{ i := 1, H := H2, c := c' + 1, ds := ds' ++ [mnB ⟨⟨l'.a.lo, x⟩, l'.b⟩], hi := by omega, hf := ⟨hf1, hF2⟩, hc := by omega, hd := by simp; omega }, tle_chain rfl ?_, (by (try simp -dsimp only [hpush_noH, hpush_hps, hps_over]); refine hle_hpsb ?_; simp -dsimp [allK, mnB, Sp.row]; repeat' (first | (refine And.intro ?_ ?_) | (refine sLe.same ?_ ?_ <;> (simp; done)) | (refine sLe.clear ?_ ?_ <;> (first | (simp; done) | (simp; omega))) | (refine sLe.drop 1 ?_ ?_ ?_ <;> (simp; done)))), by simp⟩
        simp [okAll, okv, wone]
    · have hF0 : (feed Y (((q2 l'.a b.a).map (Bx.mk · l'.b) ++ mnT l' b).map bxV) H').1 ∧ (feed Y (((q2 l'.a b.a).map (Bx.mk · l'.b) ++ mnT l' b).map bxV) H').2 = FH := ⟨hfd', hFH'⟩
      rw [e2] at hF0
      by_cases hc : y ≤ l'.a.hi
      case neg =>
        rw [if_neg hc, List.nil_append] at hF0
        have hc' : (l'.a.hi < y) = True := eq_true (by omega)
        simp -dsimp []
        repeat' (first | omega | (simp -dsimp [E72, ri, cellp, ints, hc', wone, wtwo, wtwo']) | (refine Also.intro ?_ fun _ => ?_) | (refine Hold.intro fun _ => ?_) | (refine And.intro ?_ ?_))
        refine ⟨{ i := 2, H := H', c := c' + 1, ds := ds', hi := by omega, hf := hF0, hc := by omega, hd := by omega }, tle_chain rfl ?_, (by (try simp -dsimp only [hpush_noH, hpush_hps, hps_over]); refine hle_hpsb ?_; simp -dsimp [allK, Sp.row]; repeat' (first | (refine And.intro ?_ ?_) | (refine sLe.same ?_ ?_ <;> (simp; done)) | (refine sLe.clear ?_ ?_ <;> (first | (simp; done) | (simp; omega))) | (refine sLe.drop 1 ?_ ?_ ?_ <;> (simp; done)))), by simp⟩
        simp [okAll, okv, wone, wtwo, wtwo']
      rw [if_pos hc, List.cons_append, List.nil_append, List.map_cons] at hF0
      have hc' : (l'.a.hi < y) = False := eq_false (by omega)
      obtain ⟨hF1, hF2⟩ := hF0
      obtain ⟨hyc, bb, hyv, ht, hf⟩ := feed_step hF1
      obtain ⟨H2, hH2⟩ : ∃ H2, (Y.go (bxV ⟨⟨y, l'.a.hi⟩, l'.b⟩) H').h = H2 := ⟨_, rfl⟩
      rw [hH2] at hf ht
      have hgo : ∀ S1 S2 S3, Y.go (bxV ⟨⟨y, l'.a.hi⟩, l'.b⟩) (hps [(7307, S1), (7207, S2), (7307, S3)] H') = ⟨True, .bool bb, hps [(7307, S1), (7207, S2), (7307, S3)] H2⟩ := fun S1 S2 S3 => by
        have := hloc.go hyc hyv [(7307, S1), (7207, S2), (7307, S3)]
        rw [hH2] at this; exact this
      simp only [bxV, Sp.row] at hgo
      have hlt : (b2 + (ds'.length + 1) < b2) = False := eq_false (by omega)
      have hsub : b2 + (ds'.length + 1) - b2 = ds'.length + 1 := by omega
      cases bb with
      | false =>
        rw [hf rfl] at hF2
        subst hF2
        simp -dsimp []
        repeat' (first | omega | (simp -dsimp [E72, ri, cellp, ints, hc', wone, wtwo, wtwo', cl2_2, hgo, hlt, hsub, st_end, Sp.row]) | (refine Also.intro ?_ fun _ => ?_) | (refine Hold.intro fun _ => ?_) | (refine And.intro ?_ ?_))
        exact (by (try simp -dsimp only [hpush_noH, hpush_hps, hps_over]); refine hle_hpsb ?_; simp -dsimp [allK, ]; repeat' (first | (refine And.intro ?_ ?_) | (refine sLe.same ?_ ?_ <;> (simp; done)) | (refine sLe.clear ?_ ?_ <;> (first | (simp; done) | (simp; omega))) | (refine sLe.drop 1 ?_ ?_ ?_ <;> (simp; done))))
      | true =>
        obtain ⟨hf1, hf2⟩ := ht rfl
        rw [hf2] at hF2
        simp -dsimp []
        repeat' (first | omega | (simp -dsimp [E72, ri, cellp, ints, hc', wone, wtwo, wtwo', cl2_2, hgo, hlt, hsub, st_end, Sp.row]) | (refine Also.intro ?_ fun _ => ?_) | (refine Hold.intro fun _ => ?_) | (refine And.intro ?_ ?_))
        refine ⟨{ i := 2, H := H2, c := c' + 1, ds := ds' ++ [mnB ⟨⟨y, l'.a.hi⟩, l'.b⟩], hi := by omega, hf := ⟨hf1, hF2⟩, hc := by omega, hd := by simp; omega }, tle_chain rfl ?_, (by (try simp -dsimp only [hpush_noH, hpush_hps, hps_over]); refine hle_hpsb ?_; simp -dsimp [allK, mnB, Sp.row]; repeat' (first | (refine And.intro ?_ ?_) | (refine sLe.same ?_ ?_ <;> (simp; done)) | (refine sLe.clear ?_ ?_ <;> (first | (simp; done) | (simp; omega))) | (refine sLe.drop 1 ?_ ?_ ?_ <;> (simp; done)))), by simp⟩
        simp [okAll, okv, wone, wtwo, wtwo']
  · have w1 : IntKind.wrap .i64 (b.b.lo - 1) = b.b.lo - 1 := wrap_id (by omega) (by omega)
    have w2 : IntKind.wrap .i64 (b.b.hi + 1) = b.b.hi + 1 := wrap_id (by omega) (by omega)
    obtain ⟨x, hx⟩ : ∃ x, pX l'.b b.b = x := ⟨_, rfl⟩
    obtain ⟨y, hy⟩ : ∃ y, pY l'.b b.b = y := ⟨_, rfl⟩
    have hx' : (if b.b.lo - 1 < l'.b.hi then b.b.lo - 1 else l'.b.hi) = x := hx
    have hy' : (if l'.b.lo < b.b.hi + 1 then b.b.hi + 1 else l'.b.lo) = y := hy
    have e1 : (q1 l'.b b.b).map (Bx.mk l'.a) = if l'.b.lo ≤ x then [⟨l'.a, ⟨l'.b.lo, x⟩⟩] else [] := by rw [q1, hx]; split <;> rfl
    have e2 : (q2 l'.b b.b).map (Bx.mk l'.a) = if y ≤ l'.b.hi then [⟨l'.a, ⟨y, l'.b.hi⟩⟩] else [] := by rw [q2, hy]; split <;> rfl
    simp -dsimp []
    repeat' (first | omega | (simp -dsimp [E72, ri, cellp, ints, w1, w2, hx', hy', Sp.row]) | (refine Also.intro ?_ fun _ => ?_) | (refine Hold.intro fun _ => ?_) | (refine And.intro ?_ ?_))
    refine awp_loop [54, 55, 7, 56, 57, 58, 59, 60, 61, 62, 8, 63, 64, 65, 66, 67, 68, 69, 70, 71, 53] (fun q : MnO Y FH ((q1 l'.b b.b).map (Bx.mk l'.a)) ((q2 l'.b b.b).map (Bx.mk l'.a)) ([]) c ds.length => [(53, (true, .int .i64 (q.i : Nat)))])
      (fun q => hps [(7207, { base := q.c, blks := [] }), (7307, { base := b2, blks := { z := 2, els := [l'.a.row, l'.b.row], ty := 31 } :: q.ds })] q.H) (fun q => 2 - q.i) { i := 0, H := H, c := c, ds := ds, hi := by omega, hf := ⟨hfd, hFH⟩, hc := by omega, hd := by omega } ?_ ?_ ?_
    · simp [okAll, okv]
    · exact (by (try simp -dsimp only [hpush_noH, hpush_hps, hps_over]); refine hle_hpsb ?_; simp -dsimp [allK, Sp.row]; repeat' (first | (refine And.intro ?_ ?_) | (refine sLe.same ?_ ?_ <;> (simp; done)) | (refine sLe.clear ?_ ?_ <;> (first | (simp; done) | (simp; omega))) | (refine sLe.drop 1 ?_ ?_ ?_ <;> (simp; done))))
    clear hfd hFH
    rintro ⟨i, H', c', ds', hi, ⟨hfd', hFH'⟩, hcc, hdd⟩
    dsimp only
    have hir : i = 2 ∨ i = 0 ∨ i = 1 := by omega
    rcases hir with rfl | rfl | rfl
    · obtain ⟨u, hu⟩ : ∃ u, pU l'.b b.b = u := ⟨_, rfl⟩
      obtain ⟨v, hv⟩ : ∃ v, pW l'.b b.b = v := ⟨_, rfl⟩
      have hu' : (if l'.b.lo < b.b.lo then b.b.lo else l'.b.lo) = u := hu
      have hv' : (if b.b.hi < l'.b.hi then b.b.hi else l'.b.hi) = v := hv
      have hub : -2000000 ≤ u ∧ u ≤ 2000000 := by rw [← hu']; split <;> omega
      have hvb : -2000000 ≤ v ∧ v ≤ 2000000 := by rw [← hv']; split <;> omega
      by_cases huv : v < u
      all_goals
        have hFH' : H' = FH := hFH'
        subst hFH'
      · simp -dsimp []
        repeat' (first | omega | (simp -dsimp [E72, ri, cellp, ints, hu', hv', huv, wone, Sp.row]) | (refine Also.intro ?_ fun _ => ?_) | (refine Hold.intro fun _ => ?_) | (refine And.intro ?_ ?_))
        exact (by (try simp -dsimp only [hpush_noH, hpush_hps, hps_over]); refine hle_hpsb ?_; simp -dsimp [allK, ]; repeat' (first | (refine And.intro ?_ ?_) | (refine sLe.same ?_ ?_ <;> (simp; done)) | (refine sLe.clear ?_ ?_ <;> (first | (simp; done) | (simp; omega))) | (refine sLe.drop 1 ?_ ?_ ?_ <;> (simp; done))))
      · have huv' : (v < u) = False := eq_false huv
        simp -dsimp []
        repeat' (first | omega | (simp -dsimp [E72, ri, cellp, ints, hu', hv', huv', wone, wtwo, wtwo', Sp.row]) | (refine Also.intro ?_ fun _ => ?_) | (refine Hold.intro fun _ => ?_) | (refine And.intro ?_ ?_))
        refine ⟨{ k := 2, H := H', c := c', l := ⟨l'.a, ⟨u, v⟩⟩, ds := ds', hk := by omega, hl := ⟨⟨⟨b31, b32⟩, b33, b34⟩, ⟨hub, hvb⟩⟩, hf := ⟨trivial, rfl⟩, hc := by omega, hd := by omega }, tle_kept (kept_upds rfl (kept_forget rfl (kept_upds rfl kept_base))) ?_, (by (try simp -dsimp only [hpush_noH, hpush_hps, hps_over]); refine hle_hpsb ?_; simp -dsimp [allK, Sp.row]; repeat' (first | (refine And.intro ?_ ?_) | (refine sLe.same ?_ ?_ <;> (simp; done)) | (refine sLe.clear ?_ ?_ <;> (first | (simp; done) | (simp; omega))) | (refine sLe.drop 1 ?_ ?_ ?_ <;> (simp; done)))), by simp⟩
        simp [okAll, okv, wtwo]
    · have hF0 : (feed Y (((q1 l'.b b.b).map (Bx.mk l'.a) ++ ((q2 l'.b b.b).map (Bx.mk l'.a) ++ [])).map bxV) H').1 ∧ (feed Y (((q1 l'.b b.b).map (Bx.mk l'.a) ++ ((q2 l'.b b.b).map (Bx.mk l'.a) ++ [])).map bxV) H').2 = FH := ⟨hfd', hFH'⟩
      rw [e1] at hF0
      by_cases hc : l'.b.lo ≤ x
      case neg =>
        rw [if_neg hc, List.nil_append] at hF0
        have hc' : (x < l'.b.lo) = True := eq_true (by omega)
        simp -dsimp []
        repeat' (first | omega | (simp -dsimp [E72, ri, cellp, ints, hc', wone]) | (refine Also.intro ?_ fun _ => ?_) | (refine Hold.intro fun _ => ?_) | (refine And.intro ?_ ?_))
        refine ⟨{ i := 1, H := H', c := c' + 1, ds := ds', hi := by omega, hf := hF0, hc := by omega, hd := by omega }, tle_chain rfl ?_, (by (try simp -dsimp only [hpush_noH, hpush_hps, hps_over]); refine hle_hpsb ?_; simp -dsimp [allK, Sp.row]; repeat' (first | (refine And.intro ?_ ?_) | (refine sLe.same ?_ ?_ <;> (simp; done)) | (refine sLe.clear ?_ ?_ <;> (first | (simp; done) | (simp; omega))) | (refine sLe.drop 1 ?_ ?_ ?_ <;> (simp; done)))), by simp⟩
        simp [okAll, okv, wone]
      rw [if_pos hc, List.cons_append, List.nil_append, List.map_cons] at hF0
      have hc' : (x < l'.b.lo) = False := eq_false (by omega)
      obtain ⟨hF1, hF2⟩ := hF0
      obtain ⟨hyc, bb, hyv, ht, hf⟩ := feed_step hF1
      obtain ⟨H2, hH2⟩ : ∃ H2, (Y.go (bxV ⟨l'.a, ⟨l'.b.lo, x⟩⟩) H').h = H2 := ⟨_, rfl⟩
      rw [hH2] at hf ht
      have hgo : ∀ S1 S2 S3, Y.go (bxV ⟨l'.a, ⟨l'.b.lo, x⟩⟩) (hps [(7307, S1), (7207, S2), (7307, S3)] H') = ⟨True, .bool bb, hps [(7307, S1), (7207, S2), (7307, S3)] H2⟩ := fun S1 S2 S3 => by
        have := hloc.go hyc hyv [(7307, S1), (7207, S2), (7307, S3)]
        rw [hH2] at this; exact this
      simp only [bxV, Sp.row] at hgo
      have hlt : (b2 + (ds'.length + 1) < b2) = False := eq_false (by omega)
      have hsub : b2 + (ds'.length + 1) - b2 = ds'.length + 1 := by omega
      cases bb with
      | false =>
        rw [hf rfl] at hF2
        subst hF2
        simp -dsimp []
        repeat' (first | omega | (simp -dsimp [E72, ri, cellp, ints, hc', wone, cl2_2, hgo, hlt, hsub, st_end, Sp.row]) | (refine Also.intro ?_ fun _ => ?_) | (refine Hold.intro fun _ => ?_) | (refine And.intro ?_ ?_))
        exact (by (try simp -dsimp only [hpush_noH, hpush_hps, hps_over]); refine hle_hpsb ?_; simp -dsimp [allK, ]; repeat' (first | (refine And.intro ?_ ?_) | (refine sLe.same ?_ ?_ <;> (simp; done)) | (refine sLe.clear ?_ ?_ <;> (first | (simp; done) | (simp; omega))) | (refine sLe.drop 1 ?_ ?_ ?_ <;> (simp; done))))
      | true =>
        obtain ⟨hf1, hf2⟩ := ht rfl
        rw [hf2] at hF2
        simp -dsimp []
        repeat' (first | omega | (simp -dsimp [E72, ri, cellp, ints, hc', wone, cl2_2, hgo, hlt, hsub, st_end, Sp.row]) | (refine Also.intro ?_ fun _ => ?_) | (refine Hold.intro fun _ => ?_) | (refine And.intro ?_ ?_))
        refine ⟨{ i := 1, H := H2, c := c' + 1, ds := ds' ++ [mnB ⟨l'.a, ⟨l'.b.lo, x⟩⟩], hi := by omega, hf := ⟨hf1, hF2⟩, hc := by omega, hd := by simp; omega }, tle_chain rfl ?_, (by (try simp -dsimp only [hpush_noH, hpush_hps, hps_over]); refine hle_hpsb ?_; simp -dsimp [allK, mnB, Sp.row]; repeat' (first | (refine And.intro ?_ ?_) | (refine sLe.same ?_ ?_ <;> (simp; done)) | (refine sLe.clear ?_ ?_ <;> (first | (simp; done) | (simp; omega))) | (refine sLe.drop 1 ?_ ?_ ?_ <;> (simp; done)))), by simp⟩
        simp [okAll, okv, wone]
    · have hF0 : (feed Y (((q2 l'.b b.b).map (Bx.mk l'.a) ++ []).map bxV) H').1 ∧ (feed Y (((q2 l'.b b.b).map (Bx.mk l'.a) ++ []).map bxV) H').2 = FH := ⟨hfd', hFH'⟩
      rw [e2] at hF0
      by_cases hc : y ≤ l'.b.hi
      case neg =>
        rw [if_neg hc, List.nil_append] at hF0
        have hc' : (l'.b.hi < y) = True := eq_true (by omega)
        simp -dsimp []
        repeat' (first | omega | (simp -dsimp [E72, ri, cellp, ints, hc', wone, wtwo, wtwo']) | (refine Also.intro ?_ fun _ => ?_) | (refine Hold.intro fun _ => ?_) | (refine And.intro ?_ ?_))
        refine ⟨{ i := 2, H := H', c := c' + 1, ds := ds', hi := by omega, hf := hF0, hc := by omega, hd := by omega }, tle_chain rfl ?_, (by (try simp -dsimp only [hpush_noH, hpush_hps, hps_over]); refine hle_hpsb ?_; simp -dsimp [allK, Sp.row]; repeat' (first | (refine And.intro ?_ ?_) | (refine sLe.same ?_ ?_ <;> (simp; done)) | (refine sLe.clear ?_ ?_ <;> (first | (simp; done) | (simp; omega))) | (refine sLe.drop 1 ?_ ?_ ?_ <;> (simp; done)))), by simp⟩
        simp [okAll, okv, wone, wtwo, wtwo']
      rw [if_pos hc, List.cons_append, List.nil_append, List.map_cons] at hF0
      have hc' : (l'.b.hi < y) = False := eq_false (by omega)
      obtain ⟨hF1, hF2⟩ := hF0
      obtain ⟨hyc, bb, hyv, ht, hf⟩ := feed_step hF1
      obtain ⟨H2, hH2⟩ : ∃ H2, (Y.go (bxV ⟨l'.a, ⟨y, l'.b.hi⟩⟩) H').h = H2 := ⟨_, rfl⟩
      rw [hH2] at hf ht
      have hgo : ∀ S1 S2 S3, Y.go (bxV ⟨l'.a, ⟨y, l'.b.hi⟩⟩) (hps [(7307, S1), (7207, S2), (7307, S3)] H') = ⟨True, .bool bb, hps [(7307, S1), (7207, S2), (7307, S3)] H2⟩ := fun S1 S2 S3 => by
        have := hloc.go hyc hyv [(7307, S1), (7207, S2), (7307, S3)]
        rw [hH2] at this; exact this
      simp only [bxV, Sp.row] at hgo
      have hlt : (b2 + (ds'.length + 1) < b2) = False := eq_false (by omega)
      have hsub : b2 + (ds'.length + 1) - b2 = ds'.length + 1 := by omega
      cases bb with
      | false =>
        rw [hf rfl] at hF2
        subst hF2
        simp -dsimp []
        repeat' (first | omega | (simp -dsimp [E72, ri, cellp, ints, hc', wone, wtwo, wtwo', cl2_2, hgo, hlt, hsub, st_end, Sp.row]) | (refine Also.intro ?_ fun _ => ?_) | (refine Hold.intro fun _ => ?_) | (refine And.intro ?_ ?_))
        exact (by (try simp -dsimp only [hpush_noH, hpush_hps, hps_over]); refine hle_hpsb ?_; simp -dsimp [allK, ]; repeat' (first | (refine And.intro ?_ ?_) | (refine sLe.same ?_ ?_ <;> (simp; done)) | (refine sLe.clear ?_ ?_ <;> (first | (simp; done) | (simp; omega))) | (refine sLe.drop 1 ?_ ?_ ?_ <;> (simp; done))))
      | true =>
        obtain ⟨hf1, hf2⟩ := ht rfl
        rw [hf2] at hF2
        simp -dsimp []
        repeat' (first | omega | (simp -dsimp [E72, ri, cellp, ints, hc', wone, wtwo, wtwo', cl2_2, hgo, hlt, hsub, st_end, Sp.row]) | (refine Also.intro ?_ fun _ => ?_) | (refine Hold.intro fun _ => ?_) | (refine And.intro ?_ ?_))
        refine ⟨{ i := 2, H := H2, c := c' + 1, ds := ds' ++ [mnB ⟨l'.a, ⟨y, l'.b.hi⟩⟩], hi := by omega, hf := ⟨hf1, hF2⟩, hc := by omega, hd := by simp; omega }, tle_chain rfl ?_, (by (try simp -dsimp only [hpush_noH, hpush_hps, hps_over]); refine hle_hpsb ?_; simp -dsimp [allK, mnB, Sp.row]; repeat' (first | (refine And.intro ?_ ?_) | (refine sLe.same ?_ ?_ <;> (simp; done)) | (refine sLe.clear ?_ ?_ <;> (first | (simp; done) | (simp; omega))) | (refine sLe.drop 1 ?_ ?_ ?_ <;> (simp; done)))), by simp⟩
        simp [okAll, okv, wone, wtwo, wtwo']
theorem ok72 : FnOK Tryz.prog 72 (.iter mnI) := iter_fn (E := E72) rfl (.cons ok73 .nil) (ok := []) (fn := Tryz.f72) (by kernel_rfl) (by kernel_rfl) (by kernel_rfl) (fun _ _ => by kernel_rfl) rfl (fun l Y args h hc => by obtain ⟨_, rfl, _⟩ := mnI_inv hc; simp [miE]) kpMn b72
end Go.Sx
