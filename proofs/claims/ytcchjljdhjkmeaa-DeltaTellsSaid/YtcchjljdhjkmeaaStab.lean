/-
  Sorting routes stably, as the library does: ranges swapped, ranges turned, one into another. No condition.
-/
import Derived.Test.YtcchjljdhjkmeaaStabM
import Derived.Test.YtcchjljdhjkmeaaGSlc
import Derived.Test.YtcchjljdhjkmeaaGBase
import Derived.BigRegion
import Derived.Handy
import Derived.Deep.MidRow
namespace Go.Proofs.Ytcchjljdhjkmeaa
open Go.RowKit
set_option linter.unusedVariables false
set_option linter.unusedSimpArgs false
set_option maxRecDepth 100000

/-- Routes in a block, with more behind. -/
def RowT (w : World) (g : Nat) (L : List Tg) (Z : List Value) : Prop := Blk w g 39 (rtsV (L.map (·.1)) ++ Z)
theorem rtsV_cell : ∀ {l : List Rt} {i : Nat} {r : Rt} (Z : List Value), l[i]? = some r → ∀ j v, (rtEn r)[j]? = some v → (rtsV l ++ Z)[i * 4 + j]? = some v
  | [], _, _, _, h, _, _, _ => by simp at h
  | y :: l, 0, r, Z, h, j, v, hv => by
    simp at h; subst h
    have hj : j < 4 := (List.getElem?_eq_some_iff.1 hv).1
    show (rtEn y ++ rtsV l ++ Z)[0 * 4 + j]? = some v
    rw [List.append_assoc, List.getElem?_append_left (by rw [rtEn_length]; omega), ← hv]; simp
  | y :: l, i + 1, r, Z, h, j, v, hv => by
    have ih := rtsV_cell (l := l) (i := i) Z (by simpa using h) j v hv
    show (rtEn y ++ rtsV l ++ Z)[(i + 1) * 4 + j]? = some v
    rw [List.append_assoc, List.getElem?_append_right (by rw [rtEn_length]; omega), rtEn_length, show (i + 1) * 4 + j - 4 = i * 4 + j by omega, ih]
theorem rtsV_put : ∀ {l : List Rt} {i : Nat} (r : Rt) (Z : List Value), i < l.length →
    ((((rtsV l ++ Z).set (i * 4) (.int .u64 (r.1.1.1 : Int))).set (i * 4 + 1) (.int .u64 (r.1.1.2 : Int))).set (i * 4 + 2) (.int .i64 r.1.2)).set (i * 4 + 3) (.int .i64 r.2) = rtsV (l.set i r) ++ Z
  | [], _, _, _, h => by simp at h
  | y :: l, 0, r, Z, h => by simp [rtsV, rtEn]
  | y :: l, i + 1, r, Z, h => by
    have ih := rtsV_put (l := l) (i := i) r Z (by simpa using h)
    have e0 : (i + 1) * 4 = (rtEn y).length + i * 4 := by rw [rtEn_length]; omega
    have e1 : (i + 1) * 4 + 1 = (rtEn y).length + (i * 4 + 1) := by rw [rtEn_length]; omega
    have e2 : (i + 1) * 4 + 2 = (rtEn y).length + (i * 4 + 2) := by rw [rtEn_length]; omega
    have e3 : (i + 1) * 4 + 3 = (rtEn y).length + (i * 4 + 3) := by rw [rtEn_length]; omega
    show (((((rtEn y ++ rtsV l ++ Z).set ((i + 1) * 4) _).set ((i + 1) * 4 + 1) _).set ((i + 1) * 4 + 2) _).set ((i + 1) * 4 + 3) _) = rtEn y ++ rtsV (l.set i r) ++ Z
    rw [e1, e2, e3, e0, List.append_assoc, List.set_append_right _ _ (by omega), List.set_append_right _ _ (by omega), List.set_append_right _ _ (by omega), List.set_append_right _ _ (by omega)]
    simp only [Nat.add_sub_cancel_left]
    rw [ih, List.append_assoc]
/-- A route stored. -/
def st4 (w : World) (g i : Nat) (r : Rt) : World :=
  (((w.setCell ⟨g, i * 4, none⟩ (.int .u64 (r.1.1.1 : Int))).setCell ⟨g, i * 4 + 1, none⟩ (.int .u64 (r.1.1.2 : Int))).setCell ⟨g, i * 4 + 2, none⟩ (.int .i64 r.1.2)).setCell ⟨g, i * 4 + 3, none⟩ (.int .i64 r.2)
theorem map_set {L : List Tg} {i : Nat} {x : Tg} : (L.set i x).map (·.1) = (L.map (·.1)).set i x.1 := by rw [List.map_set]
section
variable {w w' : World} {g : Nat} {L : List Tg} {Z : List Value}
theorem RowT.st4 (h : RowT w g L Z) {i : Nat} (hi : i < L.length) (x : Tg) : RowT (st4 w g i x.1) g (L.set i x) Z := by
  unfold RowT at h ⊢
  unfold Go.Proofs.Ytcchjljdhjkmeaa.st4
  have h4 := (((h.set (i * 4) (.int .u64 (x.1.1.1.1 : Int))).set (i * 4 + 1) (.int .u64 (x.1.1.1.2 : Int))).set (i * 4 + 2) (.int .i64 x.1.1.2)).set (i * 4 + 3) (.int .i64 x.1.2)
  rw [rtsV_put x.1 Z (by simpa using hi)] at h4
  rw [map_set]; exact h4
theorem st4_chg (w : World) (g i : Nat) (r : Rt) : Chg (· = g) w (Go.Proofs.Ytcchjljdhjkmeaa.st4 w g i r) :=
  ((((Chg.refl (· = g) w).setCell (fun _ => rfl) _).setCell (fun _ => rfl) _).setCell (fun _ => rfl) _).setCell (fun _ => rfl) _
theorem RowT.cells (h : RowT w g L Z) {i : Nat} {x : Tg} (hx : L[i]? = some x) :
    w.cell? ⟨g, i * 4, none⟩ = some (.int .u64 (x.1.1.1.1 : Int)) ∧ w.cell? ⟨g, i * 4 + 1, none⟩ = some (.int .u64 (x.1.1.1.2 : Int)) ∧ w.cell? ⟨g, i * 4 + 2, none⟩ = some (.int .i64 x.1.1.2) ∧ w.cell? ⟨g, i * 4 + 3, none⟩ = some (.int .i64 x.1.2) := by
  have hx' : (L.map (·.1))[i]? = some x.1 := by rw [List.getElem?_map, hx]; rfl
  exact ⟨h.cellv (rtsV_cell Z hx' 0 _ rfl), h.cellv (rtsV_cell Z hx' 1 _ rfl), h.cellv (rtsV_cell Z hx' 2 _ rfl), h.cellv (rtsV_cell Z hx' 3 _ rfl)⟩
theorem RowT.frozen (h : RowT w g L Z) (i : Nat) : w.frozen? ⟨g, i, none⟩ = false := Blk.frozen h i
theorem RowT.below (h : RowT w g L Z) (hb : Below w.heap.size w w') : RowT w' g L Z := Blk.below' h hb
theorem RowT.swap (h : RowT w g L Z) {i j : Nat} {x y : Tg} (hx : L[i]? = some x) (hy : L[j]? = some y) : RowT (Go.Proofs.Ytcchjljdhjkmeaa.st4 (Go.Proofs.Ytcchjljdhjkmeaa.st4 w g i y.1) g j x.1) g ((L.set i y).set j x) Z :=
  (h.st4 (List.getElem?_eq_some_iff.1 hx).1 y).st4 (by rw [List.length_set]; exact (List.getElem?_eq_some_iff.1 hy).1) x
end
theorem set_mid {α : Type} {P Q : List α} {x y : α} {i : Nat} (hi : i = P.length) : (P ++ x :: Q).set i y = P ++ y :: Q := by
  subst hi; rw [List.set_append_right _ _ (Nat.le_refl _)]; simp
theorem at_pre {α : Type} {P Q : List α} {x : α} {i : Nat} (hi : i = P.length) : (P ++ x :: Q)[i]? = some x := by
  subst hi; rw [List.getElem?_append_right (Nat.le_refl _)]; simp

/-! ### Ranges swapped -/
def swK (A X M Y B : List Tg) (k : Nat) : List Tg := A ++ (Y.take k ++ X.drop k) ++ M ++ (X.take k ++ Y.drop k) ++ B
theorem swK_step {A X M Y B : List Tg} {k : Nat} {x y : Tg} (hx : X[k]? = some x) (hy : Y[k]? = some y) :
    (swK A X M Y B k)[A.length + k]? = some x ∧ (swK A X M Y B k)[A.length + X.length + M.length + k]? = some y ∧ ((swK A X M Y B k).set (A.length + k) y).set (A.length + X.length + M.length + k) x = swK A X M Y B (k + 1) := by
  obtain ⟨h1, e1⟩ := List.getElem?_eq_some_iff.1 hx
  obtain ⟨h2, e2⟩ := List.getElem?_eq_some_iff.1 hy
  unfold swK
  rw [List.take_succ_eq_append_getElem h1, List.take_succ_eq_append_getElem h2, List.drop_eq_getElem_cons h1, List.drop_eq_getElem_cons h2, e1, e2]
  have q1 : A ++ (Y.take k ++ x :: X.drop (k + 1)) ++ M ++ (X.take k ++ y :: Y.drop (k + 1)) ++ B = (A ++ Y.take k) ++ x :: (X.drop (k + 1) ++ M ++ X.take k ++ y :: (Y.drop (k + 1) ++ B)) := by simp
  have q2 : A ++ (Y.take k ++ x :: X.drop (k + 1)) ++ M ++ (X.take k ++ y :: Y.drop (k + 1)) ++ B = (A ++ Y.take k ++ x :: X.drop (k + 1) ++ M ++ X.take k) ++ y :: (Y.drop (k + 1) ++ B) := by simp
  refine ⟨?_, ?_, ?_⟩
  · rw [q1]; exact at_pre (by simp; omega)
  · rw [q2]; exact at_pre (by simp; omega)
  · rw [q1, set_mid (by simp; omega)]
    have q3 : (A ++ Y.take k) ++ y :: (X.drop (k + 1) ++ M ++ X.take k ++ y :: (Y.drop (k + 1) ++ B)) = (A ++ Y.take k ++ y :: X.drop (k + 1) ++ M ++ X.take k) ++ y :: (Y.drop (k + 1) ++ B) := by simp
    rw [q3, set_mid (by simp; omega)]
    simp
def SwRel (w : World) (g : Nat) (Z : List Value) (A X M Y B : List Tg) (i : Value) (wr : World) : Prop :=
  ∃ k : Nat, k ≤ X.length ∧ i = .int .i64 k ∧ RowT wr g (swK A X M Y B k) Z ∧ Chg (· = g) w wr

set_option maxHeartbeats 1000000 in
theorem st_swapRange {w : World} {g cap n a b c : Nat} {A X M Y B : List Tg} {Z : List Value} (H : RowT w g (A ++ X ++ M ++ Y ++ B) Z) (hXY : X.length = Y.length) (hn : A.length + X.length + M.length + Y.length + B.length = n) (ha : A.length = a) (hb : A.length + X.length + M.length = b) (hx : X.length = c) (hc : n ≤ cap) (hm : cap ≤ maxLen) (f : Value) :
    Calls Try.prog 93 #[.slice (some ⟨g, 0, none⟩) n cap, .int .i64 (a : Int), .int .i64 (b : Int), .int .i64 (c : Int), f] w fun e w' =>
      e = .returned (.tuple #[]) ∧ RowT w' g (A ++ Y ++ M ++ X ++ B) Z ∧ Chg (· = g) w w' := by
  unfold maxLen at hm
  have H0 := hid (show RowT w g (swK A X M Y B 0) Z by unfold swK; simpa using H)
  have HE := hid (show swK A X M Y B c = A ++ Y ++ M ++ X ++ B by unfold swK; rw [← hx, List.take_length, List.drop_length, hXY, List.take_length, List.drop_length]; simp)
  have HX := hid hx
  have HST := hid (fun k x y (h1 : X[k]? = some x) (h2 : Y[k]? = some y) => swK_step (A := A) (M := M) (B := B) h1 h2)
  rw [hb, ha] at HST
  have HXY := hid hXY
  rw [hx] at hXY
  have hn' : a + c + (b - a - c) + c + B.length = n := by omega
  have hbn : b + c ≤ n := by omega
  have han : a + c ≤ b := by omega
  clear H hx hn ha hb hn'
  go_enter Try.func93, Try.ntmps93
  go_wp2_with fail
  go_loopw [10] (fun i wr => SwRel w g Z A X M Y B i wr) (fun i _ => c - (intOf i).toNat)
  case atStart => exact ⟨0, Nat.zero_le _, rfl, H0.out, Chg.refl _ _⟩
  case round =>
    obtain ⟨k, hk, rfl, hR, hC⟩ := hrel
    rw [HX.out] at hk
    have HR := hid hR
    have HC := hid hC
    by_cases hkc : k < c
    · obtain ⟨x, hx⟩ : ∃ x, X[k]? = some x := ⟨_, List.getElem?_eq_getElem (by rw [HX.out]; exact hkc)⟩
      obtain ⟨y, hy⟩ : ∃ y, Y[k]? = some y := ⟨_, List.getElem?_eq_getElem (by rw [← HXY.out, HX.out]; exact hkc)⟩
      obtain ⟨s1, s2, s3⟩ := HST.out k x y hx hy
      obtain ⟨i, hi⟩ : ∃ i : Nat, a + k = i := ⟨_, rfl⟩
      obtain ⟨j, hj⟩ : ∃ j : Nat, b + k = j := ⟨_, rfl⟩
      rw [hi] at s1 s3
      rw [hj] at s2 s3
      have HSW := hid (show RowT (st4 (st4 wr g i y.1) g j x.1).drew g (swK A X M Y B (k + 1)) Z by rw [← s3]; exact Blk.drew (hR.swap s1 s2))
      have HCW := hid (show Chg (· = g) w (st4 (st4 wr g i y.1) g j x.1).drew from ((hC.trans' (st4_chg _ _ _ _)).trans' (st4_chg _ _ _ _)).drew)
      obtain ⟨c0, c1, c2, c3⟩ := hR.cells s1
      obtain ⟨d0, d1, d2, d3⟩ := hR.cells s2
      have f0 := hR.frozen (i * 4)
      have f1 := hR.frozen (i * 4 + 1)
      have f2 := hR.frozen (i * 4 + 2)
      have f3 := hR.frozen (i * 4 + 3)
      have g0 := hR.frozen (j * 4)
      have g1 := hR.frozen (j * 4 + 1)
      have g2 := hR.frozen (j * 4 + 2)
      have g3 := hR.frozen (j * 4 + 3)
      have e1 : IntKind.i64.wrap ((a : Int) + (k : Int)) = (i : Int) := by rw [← hi]; rw [IntKind.wrap_i64]; omega
      have e2 : IntKind.i64.wrap ((b : Int) + (k : Int)) = (j : Int) := by rw [← hj]; rw [IntKind.wrap_i64]; omega
      have i0 : (0 : Int) ≤ (i : Int) := by omega
      have i1 : (i : Int) < (n : Int) := by omega
      have j0 : (0 : Int) ≤ (j : Int) := by omega
      have j1 : (j : Int) < (n : Int) := by omega
      have n1 : ¬ i = j := by omega
      have n2 : ¬ j = i := by omega
      obtain ⟨⟨⟨⟨x1, x2⟩, x3⟩, x4⟩, x5⟩ := x
      obtain ⟨⟨⟨⟨y1, y2⟩, y3⟩, y4⟩, y5⟩ := y
      simp only at c0 c1 c2 c3 d0 d1 d2 d3 HSW HCW
      clear hR hC hx hy s1 s2 s3 hi hj hXY
      go_wp2_with fail
      go_region
      clear c0 c1 c2 c3 d0 d1 d2 d3 f0 f1 f2 f3 g0 g1 g2 g3 e1 e2 i0 i1 j0 j1 n1 n2
      go_wp2_with fail
      go_roundw
      case rel => exact ⟨k + 1, by rw [HX.out]; omega, by go_num, HSW.out, HCW.out⟩
      case measure => simp [intOf]; omega
    · have hkc' : k = c := by omega
      subst hkc'
      rw [HE.out] at hR
      have HR2 := hid hR
      clear hR hC
      go_wp2_with fail
      go_returns
      exact ⟨rfl, HR2.out, HC.out⟩

end Go.Proofs.Ytcchjljdhjkmeaa
