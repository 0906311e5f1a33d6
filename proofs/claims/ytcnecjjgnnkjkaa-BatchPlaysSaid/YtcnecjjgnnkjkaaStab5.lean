/-
  Sorting routes stably, as the library does: the last of a row put into its place. No condition.
-/
import Derived.Test.YtcnecjjgnnkjkaaStab4
namespace Go.Proofs.Ytcnecjjgnnkjkaa
open Go.RowKit
set_option linter.unusedVariables false
set_option linter.unusedSimpArgs false
set_option maxRecDepth 100000

structure S2St (S : List Tg) (y : Tg) (u v : Nat) (w0 wr : World) : Prop where
  uv : u ≤ v
  vl : v ≤ S.length
  lo : u = 0 ∨ ∃ z, S[u - 1]? = some z ∧ ¬ y.1.1.lt z.1.1
  hi : v = S.length ∨ ∃ z, S[v]? = some z ∧ y.1.1.lt z.1.1
  b : Below w0.heap.size w0 wr
def S2Rel (S : List Tg) (y : Tg) (a : Nat) (w0 : World) (iv jv : Value) (wr : World) : Prop :=
  ∃ u v i j : Nat, iv = .int .i64 i ∧ jv = .int .i64 j ∧ a + u = i ∧ a + v = j ∧ S2St S y u v w0 wr
def S2Mv (g : Nat) (Z : List Value) (A S B : List Tg) (y : Tg) (a u : Nat) (w0 : World) (kv : Value) (wr : World) : Prop :=
  ∃ c k : Nat, u ≤ c ∧ c ≤ S.length ∧ kv = .int .i64 k ∧ a + c = k ∧ RowT wr g (A ++ (S.take c ++ y :: S.drop c) ++ B) Z ∧ Chg (· = g) w0 wr
theorem s2_step {A S B : List Tg} {y z : Tg} {c k p : Nat} (hp : A.length + c = p) (hk : k = p + 1) (ht : S[c]? = some z) :
    (A ++ (S.take (c + 1) ++ y :: S.drop (c + 1)) ++ B)[k]? = some y ∧ (A ++ (S.take (c + 1) ++ y :: S.drop (c + 1)) ++ B)[p]? = some z ∧ ((A ++ (S.take (c + 1) ++ y :: S.drop (c + 1)) ++ B).set k z).set p y = A ++ (S.take c ++ y :: S.drop c) ++ B := by
  obtain ⟨h1, e1⟩ := List.getElem?_eq_some_iff.1 ht
  rw [List.take_succ_eq_append_getElem h1, List.drop_eq_getElem_cons h1, e1]
  have q1 : A ++ (S.take c ++ [z] ++ y :: S.drop (c + 1)) ++ B = (A ++ S.take c) ++ z :: (y :: (S.drop (c + 1) ++ B)) := by simp
  have q2 : (A ++ S.take c) ++ z :: (y :: (S.drop (c + 1) ++ B)) = (A ++ S.take c ++ [z]) ++ y :: (S.drop (c + 1) ++ B) := by simp
  have q3 : (A ++ S.take c ++ [z]) ++ z :: (S.drop (c + 1) ++ B) = (A ++ S.take c) ++ z :: (z :: (S.drop (c + 1) ++ B)) := by simp
  have hlen : (A ++ S.take c).length = p := by rw [List.length_append, List.length_take]; omega
  refine ⟨?_, ?_, ?_⟩
  · rw [q1, q2]; exact at_pre (by rw [List.length_append, hlen, List.length_singleton]; exact hk)
  · rw [q1]; exact at_pre hlen.symm
  · rw [q1, q2, set_mid (by rw [List.length_append, hlen, List.length_singleton]; exact hk), q3, set_mid hlen.symm]; simp

end Go.Proofs.Ytcnecjjgnnkjkaa
