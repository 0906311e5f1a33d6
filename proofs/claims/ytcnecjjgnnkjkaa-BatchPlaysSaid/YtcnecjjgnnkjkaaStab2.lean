/-
  Sorting routes stably, as the library does: ranges turned. No condition.
-/
import Derived.Test.YtcnecjjgnnkjkaaStab
namespace Go.Proofs.Ytcnecjjgnnkjkaa
open Go.RowKit
set_option linter.unusedVariables false
set_option linter.unusedSimpArgs false
set_option maxRecDepth 100000

structure RtSt (g : Nat) (Z : List Value) (T : List Tg) (m n i j : Nat) (w0 wr : World) (A X Y B : List Tg) : Prop where
  x : X.length = i
  y : Y.length = j
  i0 : 0 < i
  j0 : 0 < j
  a : A.length + i = m
  n : A.length + i + j + B.length = n
  t : A ++ Y ++ X ++ B = T
  r : RowT wr g (A ++ X ++ Y ++ B) Z
  c : Chg (· = g) w0 wr
def RtRel (g : Nat) (Z : List Value) (T : List Tg) (m n : Nat) (w0 : World) (iv jv : Value) (wr : World) : Prop :=
  ∃ (i j : Nat) (A X Y B : List Tg), iv = .int .i64 i ∧ jv = .int .i64 j ∧ RtSt g Z T m n i j w0 wr A X Y B

end Go.Proofs.Ytcnecjjgnnkjkaa
