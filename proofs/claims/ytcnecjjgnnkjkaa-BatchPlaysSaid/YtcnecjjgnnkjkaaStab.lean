/-
  Sorting routes stably, as the library does: ranges swapped, ranges turned, one into another. No condition.
-/
import Derived.Test.YtcnecjjgnnkjkaaStabM
import Derived.Test.YtcnecjjgnnkjkaaGSlc
import Derived.Test.YtcnecjjgnnkjkaaGBase
import Derived.BigRegion
import Derived.Handy
import Derived.Deep.MidRow
namespace Go.Proofs.Ytcnecjjgnnkjkaa
open Go.RowKit
set_option linter.unusedVariables false
set_option linter.unusedSimpArgs false
set_option maxRecDepth 100000

/-- Routes in a block, with more behind. -/
def RowT (w : World) (g : Nat) (L : List Tg) (Z : List Value) : Prop := Blk w g 87 (rtsV (L.map (·.1)) ++ Z)
theorem rtsV_cell : ∀ {l : List Rt} {i : Nat} {r : Rt} (Z : List Value), l[i]? = some r → ∀ j v, (rtEn r)[j]? = some v → (rtsV l ++ Z)[i * 4 + j]? = some v
  | [], _, _, _, h, _, _, _ => by simp at h
  | y :: l, 0, r, Z, h, j, v, hv => by
    simp at h; subst h
    have hj : j < 4 := (List.getElem?_eq_some_iff.1 hv).1
    show (rtEn y ++ rtsV l ++ Z)[0 * 4 + j]? = some v
    rw [List.append_assoc, List.getElem?_append_left (by rw [rtEn_length]; omega), ← hv]; simp
  | y :: l, i + 1, r, Z, h, j, v, hv => by
    have ih := rtsV_cell (l := l) (i := i) Z (by simpa using h) j v hv
    show (rtEn y ++ rtsV l ++ Z)[(i + 1) * 4 + j]? = some v
    rw [List.append_assoc, List.getElem?_append_right (by rw [rtEn_length]; omega), rtEn_length, show (i + 1) * 4 + j - 4 = i * 4 + j by omega, ih]
theorem rtsV_put : ∀ {l : List Rt} {i : Nat} (r : Rt) (Z : List Value), i < l.length →
    ((((rtsV l ++ Z).set (i * 4) (.int .u64 (r.1.1.1 : Int))).set (i * 4 + 1) (.int .u64 (r.1.1.2 : Int))).set (i * 4 + 2) (.int .i64 r.1.2)).set (i * 4 + 3) (.int .i64 r.2) = rtsV (l.set i r) ++ Z
  | [], _, _, _, h => by simp at h
  | y :: l, 0, r, Z, h => by simp [rtsV, rtEn]
  | y :: l, i + 1, r, Z, h => by
    have ih := rtsV_put (l := l) (i := i) r Z (by simpa using h)
    have e0 : (i + 1) * 4 = (rtEn y).length + i * 4 := by rw [rtEn_length]; omega
    have e1 : (i + 1) * 4 + 1 = (rtEn y).length + (i * 4 + 1) := by rw [rtEn_length]; omega
    have e2 : (i + 1) * 4 + 2 = (rtEn y).length + (i * 4 + 2) := by rw [rtEn_length]; omega
    have e3 : (i + 1) * 4 + 3 = (rtEn y).length + (i * 4 + 3) := by rw [rtEn_length]; omega
    show (((((rtEn y ++ rtsV l ++ Z).set ((i + 1) * 4) _).set ((i + 1) * 4 + 1) _).set ((i + 1) * 4 + 2) _).set ((i + 1) * 4 + 3) _) = rtEn y ++ rtsV (l.set i r) ++ Z
    rw [e1, e2, e3, e0, List.append_assoc, List.set_append_right _ _ (by omega), List.set_append_right _ _ (by omega), List.set_append_right _ _ (by omega), List.set_append_right _ _ (by omega)]
    simp only [Nat.add_sub_cancel_left]
    rw [ih, List.append_assoc]
/-- A route stored. -/
def st4 (w : World) (g i : Nat) (r : Rt) : World :=
  (((w.setCell ⟨g, i * 4, none⟩ (.int .u64 (r.1.1.1 : Int))).setCell ⟨g, i * 4 + 1, none⟩ (.int .u64 (r.1.1.2 : Int))).setCell ⟨g, i * 4 + 2, none⟩ (.int .i64 r.1.2)).setCell ⟨g, i * 4 + 3, none⟩ (.int .i64 r.2)
theorem map_set {L : List Tg} {i : Nat} {x : Tg} : (L.set i x).map (·.1) = (L.map (·.1)).set i x.1 := by rw [List.map_set]
section
variable {w w' : World} {g : Nat} {L : List Tg} {Z : List Value}
theorem RowT.st4 (h : RowT w g L Z) {i : Nat} (hi : i < L.length) (x : Tg) : RowT (st4 w g i x.1) g (L.set i x) Z := by
  unfold RowT at h ⊢
  unfold Go.Proofs.Ytcnecjjgnnkjkaa.st4
  have h4 := (((h.set (i * 4) (.int .u64 (x.1.1.1.1 : Int))).set (i * 4 + 1) (.int .u64 (x.1.1.1.2 : Int))).set (i * 4 + 2) (.int .i64 x.1.1.2)).set (i * 4 + 3) (.int .i64 x.1.2)
  rw [rtsV_put x.1 Z (by simpa using hi)] at h4
  rw [map_set]; exact h4
theorem st4_chg (w : World) (g i : Nat) (r : Rt) : Chg (· = g) w (Go.Proofs.Ytcnecjjgnnkjkaa.st4 w g i r) :=
  ((((Chg.refl (· = g) w).setCell (fun _ => rfl) _).setCell (fun _ => rfl) _).setCell (fun _ => rfl) _).setCell (fun _ => rfl) _
theorem RowT.cells (h : RowT w g L Z) {i : Nat} {x : Tg} (hx : L[i]? = some x) :
    w.cell? ⟨g, i * 4, none⟩ = some (.int .u64 (x.1.1.1.1 : Int)) ∧ w.cell? ⟨g, i * 4 + 1, none⟩ = some (.int .u64 (x.1.1.1.2 : Int)) ∧ w.cell? ⟨g, i * 4 + 2, none⟩ = some (.int .i64 x.1.1.2) ∧ w.cell? ⟨g, i * 4 + 3, none⟩ = some (.int .i64 x.1.2) := by
  have hx' : (L.map (·.1))[i]? = some x.1 := by rw [List.getElem?_map, hx]; rfl
  exact ⟨h.cellv (rtsV_cell Z hx' 0 _ rfl), h.cellv (rtsV_cell Z hx' 1 _ rfl), h.cellv (rtsV_cell Z hx' 2 _ rfl), h.cellv (rtsV_cell Z hx' 3 _ rfl)⟩
theorem RowT.frozen (h : RowT w g L Z) (i : Nat) : w.frozen? ⟨g, i, none⟩ = false := Blk.frozen h i
theorem RowT.below (h : RowT w g L Z) (hb : Below w.heap.size w w') : RowT w' g L Z := Blk.below' h hb
theorem RowT.swap (h : RowT w g L Z) {i j : Nat} {x y : Tg} (hx : L[i]? = some x) (hy : L[j]? = some y) : RowT (Go.Proofs.Ytcnecjjgnnkjkaa.st4 (Go.Proofs.Ytcnecjjgnnkjkaa.st4 w g i y.1) g j x.1) g ((L.set i y).set j x) Z :=
  (h.st4 (List.getElem?_eq_some_iff.1 hx).1 y).st4 (by rw [List.length_set]; exact (List.getElem?_eq_some_iff.1 hy).1) x
end
theorem set_mid {α : Type} {P Q : List α} {x y : α} {i : Nat} (hi : i = P.length) : (P ++ x :: Q).set i y = P ++ y :: Q := by
  subst hi; rw [List.set_append_right _ _ (Nat.le_refl _)]; simp
theorem at_pre {α : Type} {P Q : List α} {x : α} {i : Nat} (hi : i = P.length) : (P ++ x :: Q)[i]? = some x := by
  subst hi; rw [List.getElem?_append_right (Nat.le_refl _)]; simp

/-! ### Ranges swapped -/
def swK (A X M Y B : List Tg) (k : Nat) : List Tg := A ++ (Y.take k ++ X.drop k) ++ M ++ (X.take k ++ Y.drop k) ++ B
theorem swK_step {A X M Y B : List Tg} {k : Nat} {x y : Tg} (hx : X[k]? = some x) (hy : Y[k]? = some y) :
    (swK A X M Y B k)[A.length + k]? = some x ∧ (swK A X M Y B k)[A.length + X.length + M.length + k]? = some y ∧ ((swK A X M Y B k).set (A.length + k) y).set (A.length + X.length + M.length + k) x = swK A X M Y B (k + 1) := by
  obtain ⟨h1, e1⟩ := List.getElem?_eq_some_iff.1 hx
  obtain ⟨h2, e2⟩ := List.getElem?_eq_some_iff.1 hy
  unfold swK
  rw [List.take_succ_eq_append_getElem h1, List.take_succ_eq_append_getElem h2, List.drop_eq_getElem_cons h1, List.drop_eq_getElem_cons h2, e1, e2]
  have q1 : A ++ (Y.take k ++ x :: X.drop (k + 1)) ++ M ++ (X.take k ++ y :: Y.drop (k + 1)) ++ B = (A ++ Y.take k) ++ x :: (X.drop (k + 1) ++ M ++ X.take k ++ y :: (Y.drop (k + 1) ++ B)) := by simp
  have q2 : A ++ (Y.take k ++ x :: X.drop (k + 1)) ++ M ++ (X.take k ++ y :: Y.drop (k + 1)) ++ B = (A ++ Y.take k ++ x :: X.drop (k + 1) ++ M ++ X.take k) ++ y :: (Y.drop (k + 1) ++ B) := by simp
  refine ⟨?_, ?_, ?_⟩
  · rw [q1]; exact at_pre (by simp; omega)
  · rw [q2]; exact at_pre (by simp; omega)
  · rw [q1, set_mid (by simp; omega)]
    have q3 : (A ++ Y.take k) ++ y :: (X.drop (k + 1) ++ M ++ X.take k ++ y :: (Y.drop (k + 1) ++ B)) = (A ++ Y.take k ++ y :: X.drop (k + 1) ++ M ++ X.take k) ++ y :: (Y.drop (k + 1) ++ B) := by simp
    rw [q3, set_mid (by simp; omega)]
    simp
def SwRel (w : World) (g : Nat) (Z : List Value) (A X M Y B : List Tg) (i : Value) (wr : World) : Prop :=
  ∃ k : Nat, k ≤ X.length ∧ i = .int .i64 k ∧ RowT wr g (swK A X M Y B k) Z ∧ Chg (· = g) w wr

end Go.Proofs.Ytcnecjjgnnkjkaa
