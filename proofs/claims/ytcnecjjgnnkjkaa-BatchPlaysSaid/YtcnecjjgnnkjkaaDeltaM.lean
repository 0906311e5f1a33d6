/-
  What turns between two lists in order, in plain lists. No condition.
-/
import Derived.Test.YtcnecjjgnnkjkaaChg
import Derived.Test.YtcnecjjgnnkjkaaSortM
namespace Go.Proofs.Ytcnecjjgnnkjkaa
open Go.RowKit
set_option linter.unusedVariables false
set_option linter.unusedSimpArgs false

/-- Two lists in order, side by side; n: how many steps at most. -/
def mergeN : Nat → List Rt → List Rt → List Ch
  | 0, _, _ => []
  | _ + 1, [], [] => []
  | n + 1, x :: a, [] => (x.1, x.2, -1) :: mergeN n a []
  | n + 1, [], y :: b => (y.1, -1, y.2) :: mergeN n [] b
  | n + 1, x :: a, y :: b =>
    if x.1.lt y.1 then (x.1, x.2, -1) :: mergeN n a (y :: b)
    else if y.1.lt x.1 then (y.1, -1, y.2) :: mergeN n (x :: a) b
    else (if x.2 = y.2 then [] else [(x.1, x.2, y.2)]) ++ mergeN n a b
theorem mergeN_more : ∀ (n m : Nat) (a b : List Rt), a.length + b.length ≤ n → a.length + b.length ≤ m → mergeN n a b = mergeN m a b := by
  intro n
  induction n with
  | zero =>
    intro m a b h1 h2
    have ha : a = [] := List.length_eq_zero_iff.1 (by omega)
    have hb : b = [] := List.length_eq_zero_iff.1 (by omega)
    subst ha hb
    cases m <;> rfl
  | succ n ih =>
    intro m a b h1 h2
    cases m with
    | zero =>
      have ha : a = [] := List.length_eq_zero_iff.1 (by omega)
      have hb : b = [] := List.length_eq_zero_iff.1 (by omega)
      subst ha hb
      rfl
    | succ m =>
      cases a with
      | nil =>
        cases b with
        | nil => rfl
        | cons y b => simp only [mergeN]; rw [ih m [] b (by simp at *; omega) (by simp at *; omega)]
      | cons x a =>
        cases b with
        | nil => simp only [mergeN]; rw [ih m a [] (by simp at *; omega) (by simp at *; omega)]
        | cons y b =>
          simp only [mergeN]
          rw [ih m a (y :: b) (by simp at *; omega) (by simp at *; omega), ih m (x :: a) b (by simp at *; omega) (by simp at *; omega), ih m a b (by simp at *; omega) (by simp at *; omega)]
/-- What turns from one list in order to another one. -/
def mergeD (a b : List Rt) : List Ch := mergeN (a.length + b.length) a b
theorem mergeD_nil : mergeD [] [] = [] := rfl
theorem mergeD_l (x : Rt) (a : List Rt) : mergeD (x :: a) [] = (x.1, x.2, -1) :: mergeD a [] := by
  unfold mergeD
  rw [show (x :: a).length + ([] : List Rt).length = (a.length + ([] : List Rt).length) + 1 by simp, mergeN]
theorem mergeD_r (y : Rt) (b : List Rt) : mergeD [] (y :: b) = (y.1, -1, y.2) :: mergeD [] b := by
  unfold mergeD
  rw [show ([] : List Rt).length + (y :: b).length = (([] : List Rt).length + b.length) + 1 by simp, mergeN]
theorem mergeD_lr (x y : Rt) (a b : List Rt) : mergeD (x :: a) (y :: b) =
    if x.1.lt y.1 then (x.1, x.2, -1) :: mergeD a (y :: b) else if y.1.lt x.1 then (y.1, -1, y.2) :: mergeD (x :: a) b else (if x.2 = y.2 then [] else [(x.1, x.2, y.2)]) ++ mergeD a b := by
  unfold mergeD
  rw [show (x :: a).length + (y :: b).length = (a.length + (y :: b).length) + 1 by simp; omega, mergeN]
  rw [mergeN_more (a.length + (y :: b).length) ((x :: a).length + b.length) (x :: a) b (by simp; omega) (Nat.le_refl _), mergeN_more (a.length + (y :: b).length) (a.length + b.length) a b (by simp) (Nat.le_refl _)]
theorem mergeD_len : ∀ (n : Nat) (a b : List Rt), a.length + b.length ≤ n → (mergeD a b).length ≤ a.length + b.length := by
  intro n
  induction n with
  | zero =>
    intro a b h
    have ha : a = [] := List.length_eq_zero_iff.1 (by omega)
    have hb : b = [] := List.length_eq_zero_iff.1 (by omega)
    subst ha hb
    simp [mergeD_nil]
  | succ n ih =>
    intro a b h
    cases a with
    | nil =>
      cases b with
      | nil => simp [mergeD_nil]
      | cons y b => rw [mergeD_r]; have := ih [] b (by simp at *; omega); simp at *; omega
    | cons x a =>
      cases b with
      | nil => rw [mergeD_l]; have := ih a [] (by simp at *; omega); simp at *; omega
      | cons y b =>
        rw [mergeD_lr]
        have h1 := ih a (y :: b) (by simp at *; omega)
        have h2 := ih (x :: a) b (by simp at *; omega)
        have h3 := ih a b (by simp at *; omega)
        split
        · simp at *; omega
        · split
          · simp at *; omega
          · split <;> (simp at *; omega)
end Go.Proofs.Ytcnecjjgnnkjkaa
