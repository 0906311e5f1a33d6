/-
  Sorting routes stably, as the library does: the order, and one row in order by putting each into its place. No condition.
-/
import Derived.Test.YtcnecjjgnnkjkaaStab2
import Derived.BigQuiet
namespace Go.Proofs.Ytcnecjjgnnkjkaa
open Go.RowKit
set_option linter.unusedVariables false
set_option linter.unusedSimpArgs false
set_option maxRecDepth 100000

theorem srt_cmpn (x y : Rt) : x.1.cmp y.1 < 0 ↔ x.1.lt y.1 := cmp_lt x.1 y.1

/-! ### One row, each put into its place -/
structure InSt (g : Nat) (Z : List Value) (A S B : List Tg) (i : Nat) (w0 wr : World) (U : List Tg) : Prop where
  len : A.length + U.length = i
  u0 : 0 < U.length
  ul : U.length ≤ S.length
  p : U.Perm (S.take U.length)
  s : U.Pairwise tl
  r : RowT wr g (A ++ U ++ S.drop U.length ++ B) Z
  c : Chg (· = g) w0 wr
def InRel (g : Nat) (Z : List Value) (A S B : List Tg) (w0 : World) (iv : Value) (wr : World) : Prop := ∃ (i : Nat) (U : List Tg), iv = .int .i64 i ∧ InSt g Z A S B i w0 wr U
structure InIn (g : Nat) (Z : List Value) (A R U0 : List Tg) (x : Tg) (j : Nat) (w0 wr : World) (P Q : List Tg) : Prop where
  j : A.length + P.length = j
  pq : U0 = P ++ Q
  q : ∀ y ∈ Q, tl x y
  r : RowT wr g (A ++ P ++ x :: (Q ++ R)) Z
  c : Chg (· = g) w0 wr
def InInRel (g : Nat) (Z : List Value) (A R U0 : List Tg) (x : Tg) (w0 : World) (jv : Value) (wr : World) : Prop := ∃ (j : Nat) (P Q : List Tg), jv = .int .i64 j ∧ InIn g Z A R U0 x j w0 wr P Q
theorem ins_sorted {P Q : List Tg} {x : Tg} (h : (P ++ Q).Pairwise tl) (hq : ∀ y ∈ Q, tl x y) (hp : ∀ z, P[P.length - 1]? = some z → tl z x) : (P ++ x :: Q).Pairwise tl := by
  obtain ⟨p1, p2, p3⟩ := List.pairwise_append.1 h
  rw [List.pairwise_append, List.pairwise_cons]
  refine ⟨p1, ⟨hq, p2⟩, fun a ha b hb => ?_⟩
  rcases List.mem_cons.1 hb with rfl | hb
  · have := take_lt p1 (i := P.length) (Nat.le_refl _) (z := b) (fun z _ hz => hp z hz)
    rw [List.take_length] at this
    exact this a ha
  · exact p3 a ha b hb
theorem tl_of {z x : Tg} (h2 : z.2 < x.2) (h : ¬ x.1.1.lt z.1.1) : tl z x := by
  by_cases e : z.1.1 = x.1.1
  · exact .inr ⟨e, h2⟩
  · rcases pf_lt_total e with c | c
    · exact .inl c
    · exact absurd c h
/-- The next round of the inner loop. -/
theorem InIn.step {g : Nat} {Z : List Value} {A R U0 : List Tg} {x y : Tg} {j p : Nat} {w0 wr : World} {P' Q : List Tg} (h : InIn g Z A R U0 x j w0 wr (P' ++ [y]) Q) (hp : j = p + 1) (hl : x.1.1.lt y.1.1) {w1 : World} (hb : Below wr.heap.size wr w1) :
    RowT w1 g (A ++ (P' ++ [y]) ++ x :: (Q ++ R)) Z ∧ (A ++ (P' ++ [y]) ++ x :: (Q ++ R))[j]? = some x ∧ (A ++ (P' ++ [y]) ++ x :: (Q ++ R))[p]? = some y ∧ InIn g Z A R U0 x p w0 (st4 (st4 w1 g j y.1) g p x.1).drew P' (y :: Q) := by
  have hj := h.j
  simp only [List.length_append, List.length_singleton] at hj
  have e1 : (A ++ (P' ++ [y]) ++ x :: (Q ++ R))[j]? = some x := at_pre (by simp; omega)
  have q2 : A ++ (P' ++ [y]) ++ x :: (Q ++ R) = (A ++ P') ++ y :: x :: (Q ++ R) := by simp
  have e2 : (A ++ (P' ++ [y]) ++ x :: (Q ++ R))[p]? = some y := by rw [q2]; exact at_pre (by simp; omega)
  refine ⟨h.r.below hb, e1, e2, ⟨by omega, by rw [h.pq]; simp, fun z hz => ?_, ?_, ?_⟩⟩
  · rcases List.mem_cons.1 hz with rfl | hz
    · exact .inl hl
    · exact h.q z hz
  · have h1 := (h.r.below hb).swap e1 e2
    rw [set_mid (by simp; omega)] at h1
    have q3 : A ++ (P' ++ [y]) ++ y :: (Q ++ R) = (A ++ P') ++ y :: y :: (Q ++ R) := by simp
    rw [q3, set_mid (by simp; omega)] at h1
    exact Blk.drew h1
  · exact (((h.c.trans' (Chg.of_below hb _)).trans' (st4_chg _ _ _ _)).trans' (st4_chg _ _ _ _)).drew

end Go.Proofs.Ytcnecjjgnnkjkaa
