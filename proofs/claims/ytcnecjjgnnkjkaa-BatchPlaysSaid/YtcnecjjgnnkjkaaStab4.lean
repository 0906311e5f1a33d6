/-
  Sorting routes stably, as the library does: one route put among many in order. No condition.
-/
import Derived.Test.YtcnecjjgnnkjkaaStab3
namespace Go.Proofs.Ytcnecjjgnnkjkaa
open Go.RowKit
set_option linter.unusedVariables false
set_option linter.unusedSimpArgs false
set_option maxRecDepth 100000

def SymPost (g : Nat) (Z : List Value) (w : World) (A S T B : List Tg) (e : Ending) (w' : World) : Prop :=
  e = .returned (.tuple #[]) ∧ ∃ U : List Tg, U.Perm (S ++ T) ∧ U.Pairwise tl ∧ RowT w' g (A ++ U ++ B) Z ∧ Chg (· = g) w w'
/-- Eight cells: two routes. -/
def Two (g i j : Nat) (x y : Rt) (w : World) : Prop :=
  w.cell? ⟨g, i * 4, none⟩ = some (.int .u64 (x.1.1.1 : Int)) ∧ w.cell? ⟨g, i * 4 + 1, none⟩ = some (.int .u64 (x.1.1.2 : Int)) ∧ w.cell? ⟨g, i * 4 + 2, none⟩ = some (.int .i64 x.1.2) ∧ w.cell? ⟨g, i * 4 + 3, none⟩ = some (.int .i64 x.2) ∧
  w.cell? ⟨g, j * 4, none⟩ = some (.int .u64 (y.1.1.1 : Int)) ∧ w.cell? ⟨g, j * 4 + 1, none⟩ = some (.int .u64 (y.1.1.2 : Int)) ∧ w.cell? ⟨g, j * 4 + 2, none⟩ = some (.int .i64 y.1.2) ∧ w.cell? ⟨g, j * 4 + 3, none⟩ = some (.int .i64 y.2)
theorem RowT.two {w : World} {g : Nat} {L : List Tg} {Z : List Value} (h : RowT w g L Z) {i j : Nat} {x y : Tg} (hx : L[i]? = some x) (hy : L[j]? = some y) : Two g i j x.1 y.1 w := by
  obtain ⟨a, b, c, d⟩ := h.cells hx
  obtain ⟨e, f, k, l⟩ := h.cells hy
  exact ⟨a, b, c, d, e, f, k, l⟩
theorem Two.later {g i j : Nat} {x y : Rt} {w : World} (h : Two g i j x y w) (z : Later w) : Two g i j x y z.w :=
  ⟨z.cell h.1, z.cell h.2.1, z.cell h.2.2.1, z.cell h.2.2.2.1, z.cell h.2.2.2.2.1, z.cell h.2.2.2.2.2.1, z.cell h.2.2.2.2.2.2.1, z.cell h.2.2.2.2.2.2.2⟩

structure S1St (g : Nat) (Z : List Value) (A T B : List Tg) (x : Tg) (m u v : Nat) (w0 wr : World) : Prop where
  uv : u ≤ v
  vl : v ≤ T.length
  lo : u = 0 ∨ ∃ z, T[u - 1]? = some z ∧ z.1.1.lt x.1.1
  hi : v = T.length ∨ ∃ z, T[v]? = some z ∧ ¬ z.1.1.lt x.1.1
  b : Below w0.heap.size w0 wr
def S1Rel (g : Nat) (Z : List Value) (A T B : List Tg) (x : Tg) (m : Nat) (w0 : World) (iv jv : Value) (wr : World) : Prop :=
  ∃ u v i j : Nat, iv = .int .i64 i ∧ jv = .int .i64 j ∧ m + u = i ∧ m + v = j ∧ S1St g Z A T B x m u v w0 wr
def S1Mv (g : Nat) (Z : List Value) (A T B : List Tg) (x : Tg) (a u : Nat) (w0 : World) (kv : Value) (wr : World) : Prop :=
  ∃ t k : Nat, t ≤ u ∧ kv = .int .i64 k ∧ a + t = k ∧ RowT wr g (A ++ (T.take t ++ x :: T.drop t) ++ B) Z ∧ Chg (· = g) w0 wr
theorem s1_step {A T B : List Tg} {x y : Tg} {t k l : Nat} (hk : A.length + t = k) (hl : l = k + 1) (ht : T[t]? = some y) :
    (A ++ (T.take t ++ x :: T.drop t) ++ B)[k]? = some x ∧ (A ++ (T.take t ++ x :: T.drop t) ++ B)[l]? = some y ∧ ((A ++ (T.take t ++ x :: T.drop t) ++ B).set k y).set l x = A ++ (T.take (t + 1) ++ x :: T.drop (t + 1)) ++ B := by
  obtain ⟨h1, e1⟩ := List.getElem?_eq_some_iff.1 ht
  rw [List.take_succ_eq_append_getElem h1, List.drop_eq_getElem_cons h1, e1]
  have q1 : A ++ (T.take t ++ x :: (y :: T.drop (t + 1))) ++ B = (A ++ T.take t) ++ x :: (y :: (T.drop (t + 1) ++ B)) := by simp
  have q2 : (A ++ T.take t) ++ x :: (y :: (T.drop (t + 1) ++ B)) = (A ++ T.take t ++ [x]) ++ y :: (T.drop (t + 1) ++ B) := by simp
  have q3 : (A ++ T.take t) ++ y :: (y :: (T.drop (t + 1) ++ B)) = (A ++ T.take t ++ [y]) ++ y :: (T.drop (t + 1) ++ B) := by simp
  have hlen : (A ++ T.take t).length = k := by rw [List.length_append, List.length_take]; omega
  refine ⟨?_, ?_, ?_⟩
  · rw [q1]; exact at_pre hlen.symm
  · rw [q1, q2]; exact at_pre (by rw [List.length_append, hlen, List.length_singleton]; exact hl)
  · rw [q1, set_mid hlen.symm, q3, set_mid (by rw [List.length_append, hlen, List.length_singleton]; exact hl)]; simp

end Go.Proofs.Ytcnecjjgnnkjkaa
