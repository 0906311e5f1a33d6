/-
  Of prefixes in a block, alike neighbours left out but the first (slices.Compact): plain lists, and the state of the walk. No condition.
-/
import Derived.Test.YtcchjljdhjkmeaaCompact2
import Derived.Test.YtcchjljdhjkmeaaSpread
import Derived.Test.YtcchjljdhjkmeaaOrd
import Derived.Test.YtcchjljdhjkmeaaSliceOp
namespace Go.Proofs.Ytcchjljdhjkmeaa
open Go.RowKit
set_option linter.unusedVariables false
set_option linter.unusedSimpArgs false
set_option maxRecDepth 100000

/-- Of alike neighbours only the first; p: the one ahead. -/
def compP : Pf → List Pf → List Pf
  | _, [] => []
  | p, y :: l => if y = p then compP y l else y :: compP y l
def compL : List Pf → List Pf
  | [] => []
  | x :: l => x :: compP x l
theorem compP_same {p y : Pf} {l : List Pf} (h : y = p) : compP p (y :: l) = compP y l := by rw [compP, if_pos h]
theorem compP_new {p y : Pf} {l : List Pf} (h : y ≠ p) : compP p (y :: l) = y :: compP y l := by rw [compP, if_neg h]
theorem compP_len (p : Pf) (l : List Pf) : (compP p l).length ≤ l.length := by
  induction l generalizing p with
  | nil => simp [compP]
  | cons y l ih =>
    by_cases h : y = p
    · rw [compP_same h]; have := ih y; simp; omega
    · rw [compP_new h]; have := ih y; simp; omega
theorem compL_len (l : List Pf) : (compL l).length ≤ l.length := by
  cases l with
  | nil => simp [compL]
  | cons x l => rw [compL]; have := compP_len x l; simp; omega
theorem compP_spec {l : List Pf} : ∀ {p : Pf}, l.Pairwise (fun x y => ¬ y.lt x) → (∀ y ∈ l, ¬ y.lt p) → (compP p l).Pairwise (fun x y => x.lt y) ∧ (∀ z ∈ compP p l, p.lt z) ∧ ∀ z, z ∈ compP p l ↔ z ∈ l ∧ z ≠ p := by
  induction l with
  | nil => intro p _ _; simp [compP]
  | cons y l ih =>
    intro p hs hp
    have hy := hp y (by simp)
    have hs' := List.pairwise_cons.1 hs
    have ih' := ih (p := y) hs'.2 hs'.1
    by_cases h : y = p
    · rw [compP_same h]
      subst h
      refine ⟨ih'.1, ih'.2.1, fun z => ?_⟩
      rw [ih'.2.2]
      constructor
      · rintro ⟨h1, h2⟩; exact ⟨by simp [h1], h2⟩
      · rintro ⟨h1, h2⟩
        rcases List.mem_cons.1 h1 with rfl | h1
        · exact absurd rfl h2
        · exact ⟨h1, h2⟩
    · rw [compP_new h]
      have hlt : p.lt y := (pf_lt_total h).resolve_left hy
      refine ⟨List.pairwise_cons.2 ⟨ih'.2.1, ih'.1⟩, fun z hz => ?_, fun z => ?_⟩
      · rcases List.mem_cons.1 hz with rfl | hz
        · exact hlt
        · exact pf_lt_trans hlt (ih'.2.1 z hz)
      · rw [List.mem_cons, ih'.2.2, List.mem_cons]
        constructor
        · rintro (rfl | ⟨h1, h2⟩)
          · exact ⟨.inl rfl, h⟩
          · refine ⟨.inr h1, fun e => ?_⟩
            subst e
            exact hs'.1 z h1 hlt
        · rintro ⟨rfl | h1, h2⟩
          · exact .inl rfl
          · by_cases e : z = y
            · exact .inl e
            · exact .inr ⟨h1, e⟩
theorem compL_spec {l : List Pf} (h : l.Pairwise (fun x y => ¬ y.lt x)) : (compL l).Pairwise (fun x y => x.lt y) ∧ ∀ z, z ∈ compL l ↔ z ∈ l := by
  cases l with
  | nil => simp [compL]
  | cons x l =>
    have h' := List.pairwise_cons.1 h
    have k := compP_spec (p := x) h'.2 h'.1
    rw [compL]
    refine ⟨List.pairwise_cons.2 ⟨k.2.1, k.1⟩, fun z => ?_⟩
    rw [List.mem_cons, k.2.2, List.mem_cons]
    constructor
    · rintro (h1 | ⟨h1, _⟩)
      · exact .inl h1
      · exact .inr h1
    · rintro (h1 | h1)
      · exact .inl h1
      · by_cases e : z = x
        · exact .inl e
        · exact .inr ⟨h1, e⟩

/-- Prefixes in a block, with more behind. -/
def RowP (w : World) (g : Nat) (L : List Pf) (Z : List Value) : Prop := Blk w g 37 (pfsV L ++ Z)
theorem pfsV_len (l : List Pf) : (pfsV l).length = l.length * 3 := flat_len pfEn_length l
theorem pfsV_app (l k : List Pf) : pfsV (l ++ k) = pfsV l ++ pfsV k := by simp [pfsV]
theorem pfsV_cell : ∀ {l : List Pf} {i : Nat} {r : Pf} (Z : List Value), l[i]? = some r → ∀ j v, (pfEn r)[j]? = some v → (pfsV l ++ Z)[i * 3 + j]? = some v
  | [], _, _, _, h, _, _, _ => by simp at h
  | y :: l, 0, r, Z, h, j, v, hv => by
    simp at h; subst h
    have hj : j < 3 := (List.getElem?_eq_some_iff.1 hv).1
    show (pfEn y ++ pfsV l ++ Z)[0 * 3 + j]? = some v
    rw [List.append_assoc, List.getElem?_append_left (by rw [pfEn_length]; omega), ← hv]; simp
  | y :: l, i + 1, r, Z, h, j, v, hv => by
    have ih := pfsV_cell (l := l) (i := i) Z (by simpa using h) j v hv
    show (pfEn y ++ pfsV l ++ Z)[(i + 1) * 3 + j]? = some v
    rw [List.append_assoc, List.getElem?_append_right (by rw [pfEn_length]; omega), pfEn_length, show (i + 1) * 3 + j - 3 = i * 3 + j by omega, ih]
theorem pfsV_put : ∀ {l : List Pf} {i : Nat} (r : Pf) (Z : List Value), i < l.length →
    (((pfsV l ++ Z).set (i * 3) (.int .u64 (r.1.1 : Int))).set (i * 3 + 1) (.int .u64 (r.1.2 : Int))).set (i * 3 + 2) (.int .i64 r.2) = pfsV (l.set i r) ++ Z
  | [], _, _, _, h => by simp at h
  | y :: l, 0, r, Z, h => by simp [pfsV, pfEn]
  | y :: l, i + 1, r, Z, h => by
    have ih := pfsV_put (l := l) (i := i) r Z (by simpa using h)
    have e0 : (i + 1) * 3 = (pfEn y).length + i * 3 := by rw [pfEn_length]; omega
    have e1 : (i + 1) * 3 + 1 = (pfEn y).length + (i * 3 + 1) := by rw [pfEn_length]; omega
    have e2 : (i + 1) * 3 + 2 = (pfEn y).length + (i * 3 + 2) := by rw [pfEn_length]; omega
    show ((((pfEn y ++ pfsV l ++ Z).set ((i + 1) * 3) _).set ((i + 1) * 3 + 1) _).set ((i + 1) * 3 + 2) _) = pfEn y ++ pfsV (l.set i r) ++ Z
    rw [e1, e2, e0, List.append_assoc, List.set_append_right _ _ (by omega), List.set_append_right _ _ (by omega), List.set_append_right _ _ (by omega)]
    simp only [Nat.add_sub_cancel_left]
    rw [ih, List.append_assoc]
/-- A prefix stored. -/
def st3 (w : World) (g i : Nat) (r : Pf) : World := ((w.setCell ⟨g, i * 3, none⟩ (.int .u64 (r.1.1 : Int))).setCell ⟨g, i * 3 + 1, none⟩ (.int .u64 (r.1.2 : Int))).setCell ⟨g, i * 3 + 2, none⟩ (.int .i64 r.2)
section
variable {w w' : World} {g : Nat} {L : List Pf} {Z : List Value}
theorem RowP.st3 (h : RowP w g L Z) {i : Nat} (hi : i < L.length) (x : Pf) : RowP (st3 w g i x) g (L.set i x) Z := by
  unfold RowP at h ⊢
  unfold Go.Proofs.Ytcchjljdhjkmeaa.st3
  have h4 := ((h.set (i * 3) (.int .u64 (x.1.1 : Int))).set (i * 3 + 1) (.int .u64 (x.1.2 : Int))).set (i * 3 + 2) (.int .i64 x.2)
  rw [pfsV_put x Z hi] at h4
  exact h4
theorem st3_chg (w : World) (g i : Nat) (r : Pf) : Chg (· = g) w (Go.Proofs.Ytcchjljdhjkmeaa.st3 w g i r) :=
  (((Chg.refl (· = g) w).setCell (fun _ => rfl) _).setCell (fun _ => rfl) _).setCell (fun _ => rfl) _
theorem RowP.cells (h : RowP w g L Z) {i : Nat} {x : Pf} (hx : L[i]? = some x) :
    w.cell? ⟨g, i * 3, none⟩ = some (.int .u64 (x.1.1 : Int)) ∧ w.cell? ⟨g, i * 3 + 1, none⟩ = some (.int .u64 (x.1.2 : Int)) ∧ w.cell? ⟨g, i * 3 + 2, none⟩ = some (.int .i64 x.2) :=
  ⟨h.cellv (pfsV_cell Z hx 0 _ rfl), h.cellv (pfsV_cell Z hx 1 _ rfl), h.cellv (pfsV_cell Z hx 2 _ rfl)⟩
theorem RowP.frozen (h : RowP w g L Z) (i : Nat) : w.frozen? ⟨g, i, none⟩ = false := Blk.frozen h i
theorem RowP.drew (h : RowP w g L Z) : RowP w.drew g L Z := h
end

/-- The first k of what is left, if k have been looked at. -/
structure PoSt (g : Nat) (U : List Pf) (Z : List Value) (k : Nat) (w0 wr : World) (D : List Pf) (x : Pf) (R : List Pf) : Prop where
  u : U = D ++ x :: R
  kk : D.length + 1 = k
  c : compL U = D ++ x :: compP x R
  r : RowP wr g U Z
  h : Chg (· = g) w0 wr
def PoRel (g : Nat) (U : List Pf) (Z : List Value) (w0 : World) (iv : Value) (wr : World) : Prop := ∃ (k : Nat) (D : List Pf) (x : Pf) (R : List Pf), iv = .int .i64 k ∧ PoSt g U Z k w0 wr D x R
structure PiSt (g : Nat) (U : List Pf) (Z : List Value) (k0 k j : Nat) (w0 wr : World) (K J : List Pf) (y : Pf) (R : List Pf) : Prop where
  kk : K.length = k
  jj : K.length + J.length + 1 = k0 + j
  j1 : 1 ≤ j
  n : K.length + J.length + 1 + R.length = U.length
  c : compL U = K ++ compP y R
  r : RowP wr g (K ++ J ++ y :: R) Z
  h : Chg (· = g) w0 wr
def PiRel (g : Nat) (U : List Pf) (Z : List Value) (k0 : Nat) (w0 : World) (kv jv : Value) (wr : World) : Prop := ∃ (k j : Nat) (K J : List Pf) (y : Pf) (R : List Pf), kv = .int .i64 k ∧ jv = .int .i64 j ∧ PiSt g U Z k0 k j w0 wr K J y R
def PoPost (g cap : Nat) (U : List Pf) (Z : List Value) (w : World) (e : Ending) (w' : World) : Prop :=
  e = .returned (.slice (some ⟨g, 0, none⟩) (compL U).length cap) ∧ ∃ Z' : List Value, RowP w' g (compL U) Z' ∧ (compL U).length * 3 + Z'.length = U.length * 3 + Z.length ∧ Chg (· = g) w w'
variable {g : Nat} {U : List Pf} {Z : List Value}
theorem PoSt.next {k : Nat} {w0 wr : World} {D R : List Pf} {x y : Pf} (h : PoSt g U Z k w0 wr D x (y :: R)) (hn : y ≠ x) : PoSt g U Z (k + 1) w0 wr.drew (D ++ [x]) y R :=
  ⟨by rw [h.u]; simp, by have := h.kk; simp; omega, by rw [h.c, compP_new hn]; simp, h.r.drew, h.h.drew⟩
theorem PoSt.inner {k : Nat} {w0 wr : World} {D R : List Pf} {x y : Pf} (h : PoSt g U Z k w0 wr D x (y :: R)) (hn : y = x) : PiSt g U Z k k 1 w0 wr.drew (D ++ [x]) [] y R :=
  ⟨by have := h.kk; simp; omega, by have := h.kk; simp; omega, Nat.le_refl _, by have := h.kk; rw [h.u]; simp; omega, by rw [h.c, compP_same hn]; simp, by have := h.r.drew; rw [h.u] at this; simpa using this, h.h.drew⟩
theorem PoSt.done {k : Nat} {w0 wr : World} {D : List Pf} {x : Pf} (h : PoSt g U Z k w0 wr D x []) : compL U = U := by
  rw [h.c, h.u]; simp [compP]
theorem PiSt.same {k0 k j : Nat} {w0 wr : World} {K J R : List Pf} {y z : Pf} (h : PiSt g U Z k0 k j w0 wr K J y (z :: R)) (hn : z = y) : PiSt g U Z k0 k (j + 1) w0 wr.drew K (J ++ [y]) z R :=
  ⟨h.kk, by have := h.jj; simp; omega, by have := h.j1; omega, by have := h.n; simp at this ⊢; omega, by rw [h.c, compP_same hn], by have := h.r.drew; simpa using this, h.h.drew⟩
theorem headP_ex (J : List Pf) (y : Pf) : ∃ h J', J ++ [y] = h :: J' ∧ J'.length = J.length := by
  cases J with
  | nil => exact ⟨y, [], rfl, rfl⟩
  | cons h J => exact ⟨h, J ++ [y], rfl, by simp⟩
theorem PiSt.new {k0 k j : Nat} {w0 wr : World} {K J R : List Pf} {y z : Pf} (h : PiSt g U Z k0 k j w0 wr K J y (z :: R)) (hn : z ≠ y) :
    ∃ J', PiSt g U Z k0 (k + 1) (j + 1) w0 (st3 wr.drew g k z) (K ++ [z]) J' z R := by
  obtain ⟨a, J', e, hl⟩ := headP_ex J y
  have e2 : K ++ J ++ y :: z :: R = K ++ a :: (J' ++ z :: R) := by
    have : K ++ J ++ y :: z :: R = K ++ (J ++ [y]) ++ z :: R := by simp
    rw [this, e]; simp
  have hr := h.r.drew
  rw [e2] at hr
  have hk := h.kk
  have h1 := hr.st3 (i := k) (by simp; omega) z
  rw [set_mid hk.symm] at h1
  exact ⟨J', by simp; omega, by have := h.jj; simp; omega, by have := h.j1; omega, by have := h.n; simp at this ⊢; omega, by rw [h.c, compP_new hn]; simp, by simpa using h1, h.h.drew.trans' (st3_chg _ _ _ _)⟩
/-- The rest is laid to zero. -/
theorem PiSt.fin {k0 k j : Nat} {w0 wr : World} {K J : List Pf} {y : Pf} (h : PiSt g U Z k0 k j w0 wr K J y []) {zs : List Value} (hz : zs.length = (U.length - k) * 3) {w' : World}
    (hB : Blk w' g 37 ((pfsV (K ++ J ++ [y]) ++ Z).take (k * 3) ++ zs ++ (pfsV (K ++ J ++ [y]) ++ Z).drop (k * 3 + zs.length))) (hc : Chg (· = g) wr w') :
    compL U = K ∧ RowP w' g K (zs ++ Z) ∧ k * 3 + (zs ++ Z).length = U.length * 3 + Z.length ∧ Chg (· = g) w0 w' := by
  have hk := h.kk
  have hn := h.n
  simp only [List.length_nil, Nat.add_zero] at hn
  have e1 : pfsV (K ++ J ++ [y]) = pfsV K ++ pfsV (J ++ [y]) := by rw [List.append_assoc, pfsV_app]
  have l1 : (pfsV K).length = k * 3 := by rw [pfsV_len, hk]
  have l2 : (pfsV (J ++ [y])).length = zs.length := by rw [pfsV_len, hz, List.length_append, List.length_singleton]; omega
  rw [e1, lay_rest l1 l2] at hB
  refine ⟨by rw [h.c]; simp [compP], hB, by rw [List.length_append, hz]; omega, h.h.trans' hc⟩
end Go.Proofs.Ytcchjljdhjkmeaa
