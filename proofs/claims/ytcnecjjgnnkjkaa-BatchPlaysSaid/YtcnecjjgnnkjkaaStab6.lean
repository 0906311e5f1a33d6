/-
  Sorting routes stably, as the library does: two rows in order made one. No condition.
-/
import Derived.Test.YtcnecjjgnnkjkaaStab5
namespace Go.Proofs.Ytcnecjjgnnkjkaa
open Go.RowKit
set_option linter.unusedVariables false
set_option linter.unusedSimpArgs false
set_option maxRecDepth 100000

structure SySt (S T : List Tg) (a m b mid s r : Nat) (w0 wr : World) : Prop where
  sr : s ≤ r
  sa : a ≤ s
  rm : r ≤ m
  rd : r ≤ mid
  lo : mid + m ≤ s + b
  h1 : s = a ∨ mid + m = s + b ∨ ∃ x y, S[s - a - 1]? = some x ∧ T[mid - s]? = some y ∧ ¬ y.1.1.lt x.1.1
  h2 : r = m ∨ r = mid ∨ ∃ x y, S[r - a]? = some x ∧ T[mid - r - 1]? = some y ∧ y.1.1.lt x.1.1
  b : Below w0.heap.size w0 wr
def SyRel (S T : List Tg) (a m b mid : Nat) (w0 : World) (sv rv : Value) (wr : World) : Prop := ∃ s r : Nat, sv = .int .i64 s ∧ rv = .int .i64 r ∧ SySt S T a m b mid s r w0 wr
def Sy5 (g : Nat) (Z : List Value) (w0 : World) (A S1 T1 S2 T2 B : List Tg) (w' : World) : Prop := RowT w' g (A ++ S1 ++ T1 ++ S2 ++ T2 ++ B) Z ∧ Chg (· = g) w0 w'
def Sy6 (g : Nat) (Z : List Value) (w0 : World) (A S1 T1 S2 T2 B : List Tg) (w' : World) : Prop := ∃ U1 : List Tg, U1.Perm (S1 ++ T1) ∧ U1.Pairwise tl ∧ RowT w' g (A ++ U1 ++ S2 ++ T2 ++ B) Z ∧ Chg (· = g) w0 w'
def Sy7 (g : Nat) (Z : List Value) (w0 : World) (A S1 T1 S2 T2 B : List Tg) (w' : World) : Prop := ∃ U1 U2 : List Tg, U1.Perm (S1 ++ T1) ∧ U1.Pairwise tl ∧ U2.Perm (S2 ++ T2) ∧ U2.Pairwise tl ∧ RowT w' g (A ++ U1 ++ U2 ++ B) Z ∧ Chg (· = g) w0 w'
section
variable {g : Nat} {Z : List Value} {w0 w w' : World} {A S1 T1 S2 T2 B : List Tg}
theorem Sy5.skip (h : Sy5 g Z w0 A S1 T1 S2 T2 B w) (h0 : S1 = [] ∨ T1 = []) (hS : S1.Pairwise tl) (hT : T1.Pairwise tl) : Sy6 g Z w0 A S1 T1 S2 T2 B w :=
  ⟨S1 ++ T1, List.Perm.refl _, sym_none h0 hS hT, by have := h.1; simpa using this, h.2⟩
theorem Sy6.skip (h : Sy6 g Z w0 A S1 T1 S2 T2 B w) (h0 : S2 = [] ∨ T2 = []) (hS : S2.Pairwise tl) (hT : T2.Pairwise tl) : Sy7 g Z w0 A S1 T1 S2 T2 B w := by
  obtain ⟨U1, p1, s1, r, c⟩ := h
  exact ⟨U1, S2 ++ T2, p1, s1, List.Perm.refl _, sym_none h0 hS hT, by simpa using r, c⟩
end
end Go.Proofs.Ytcnecjjgnnkjkaa
