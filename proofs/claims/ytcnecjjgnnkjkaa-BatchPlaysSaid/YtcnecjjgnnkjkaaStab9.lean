/-
  Routes turned round in their block. No condition but that there are no more than a thousand million routes.
-/
import Derived.Test.YtcnecjjgnnkjkaaStab8
namespace Go.Proofs.Ytcnecjjgnnkjkaa
open Go.RowKit
set_option linter.unusedVariables false
set_option linter.unusedSimpArgs false
set_option maxRecDepth 100000

structure RvSt (g : Nat) (Z : List Value) (L : List Tg) (i l : Nat) (w0 wr : World) (P M Q : List Tg) : Prop where
  p : P.length = i
  m : M.length = l
  t : P ++ M.reverse ++ Q = L.reverse
  r : RowT wr g (P ++ M ++ Q) Z
  n : i + l + Q.length = L.length
  c : Chg (· = g) w0 wr
def RvRel (g : Nat) (Z : List Value) (L : List Tg) (w0 : World) (iv jv : Value) (wr : World) : Prop :=
  ∃ (i l : Nat) (P M Q : List Tg), iv = .int .i64 i ∧ jv = .int .i64 ((i : Int) + (l : Int) - 1) ∧ RvSt g Z L i l w0 wr P M Q
theorem two_ends {l : Nat} {M : List Tg} (h : M.length = l + 2) : ∃ x M' y, M = x :: (M' ++ [y]) ∧ M'.length = l := by
  cases M with
  | nil => simp at h
  | cons x M =>
    rcases List.eq_nil_or_concat M with e | ⟨M', y, e⟩
    · subst e; simp at h
    · rw [List.concat_eq_append] at e; subst e; exact ⟨x, M', y, rfl, by simp at h; omega⟩
theorem rev_step {P M' Q : List Tg} {x y : Tg} {i j : Nat} (hi : P.length = i) (hj : i + M'.length + 1 = j) :
    (P ++ (x :: (M' ++ [y])) ++ Q)[i]? = some x ∧ (P ++ (x :: (M' ++ [y])) ++ Q)[j]? = some y ∧ ((P ++ (x :: (M' ++ [y])) ++ Q).set i y).set j x = (P ++ [y]) ++ M' ++ (x :: Q) := by
  have q1 : P ++ (x :: (M' ++ [y])) ++ Q = P ++ x :: (M' ++ y :: Q) := by simp
  have q2 : P ++ x :: (M' ++ y :: Q) = (P ++ x :: M') ++ y :: Q := by simp
  have q3 : P ++ y :: (M' ++ y :: Q) = (P ++ y :: M') ++ y :: Q := by simp
  refine ⟨?_, ?_, ?_⟩
  · rw [q1]; exact at_pre hi.symm
  · rw [q1, q2]; exact at_pre (by simp; omega)
  · rw [q1, set_mid hi.symm, q3, set_mid (by simp; omega)]; simp

end Go.Proofs.Ytcnecjjgnnkjkaa
