/-
  A row of commands with one that can't be done, whatever there is. Plain lists. No condition.
-/
import Derived.Test.YtcnecjjgnnkjkaaBatchLaw
namespace Go.Proofs.Ytcnecjjgnnkjkaa
open Go.RowKit
set_option linter.unusedVariables false
set_option linter.unusedSimpArgs false

/-- The five commands that can't be done. -/
def badL : List Cm := [cmOf 3 ((0, 0), 0) 0, cmOf 1 ((0, 0), 33) 0, cmOf 1 ((0, 0), 0) (-1), cmOf 2 ((0, 1), 3) 0, cmOf 0 ((0, 0), 0) 0]
def lim3 : Lim := limOf 32 300 60
def two3 : List Cm := [cmOf 1 ((0, 0), 1) 1, cmOf 1 ((0, 0), 2) 2]
def rts3 : List Rt := [(((0, 0), 1), 1), (((0, 0), 2), 2)]
theorem lim3_wd : lim3.wd = 32 := by decide
theorem do_two3 : doB lim3 [] two3 = (-1, 0, rts3) := by decide
theorem badL_err : ∀ c ∈ badL, ∀ R, cmErr lim3 R c ≠ 0 := by
  intro c hc R
  unfold badL at hc
  simp only [List.mem_cons, List.not_mem_nil, or_false] at hc
  have h1 : ¬ (3 : Int) = 1 := by decide
  have h33 : (lim3.wd : Int) < 33 := by rw [lim3_wd]; decide
  have h0 : ¬ (lim3.wd : Int) < 0 := by rw [lim3_wd]; decide
  have hr : ¬ Pf.right ((0, 1), 3) := by decide
  rcases hc with rfl | rfl | rfl | rfl | rfl
  · unfold cmErr checkE; rw [if_pos (by simp [cmOf])]; decide
  · unfold cmErr checkE; rw [if_neg (by simp [cmOf]), if_pos (.inr (by exact h33))]; decide
  · unfold cmErr checkE
    rw [if_neg (by simp [cmOf])]
    split
    · decide
    · rw [if_pos (by rfl), if_pos (by decide)]; decide
  · unfold cmErr checkE; rw [if_neg (by simp [cmOf]), if_pos (.inl (by exact hr))]; decide
  · unfold cmErr checkE; rw [if_pos (by simp [cmOf])]; decide
theorem badL_ok : ∀ c ∈ badL, c.ok := by
  intro c hc
  unfold badL at hc
  simp only [List.mem_cons, List.not_mem_nil, or_false] at hc
  have o0 : Ad.ok (0, 0) := ⟨by decide, by decide⟩
  have o1 : Ad.ok (0, 1) := ⟨by decide, by decide⟩
  rcases hc with rfl | rfl | rfl | rfl | rfl
  · exact cmOf_ok (by decide) o0 (by decide) (by decide)
  · exact cmOf_ok (by decide) o0 (by decide) (by decide)
  · exact cmOf_ok (by decide) o0 (by decide) (by decide)
  · exact cmOf_ok (by decide) o1 (by decide) (by decide)
  · exact cmOf_ok (by decide) o0 (by decide) (by decide)
theorem runB_bad {m : Lim} {c : Cm} (hc : ∀ R, cmErr m R c ≠ 0) (ys : List Cm) : ∀ (xs : List Cm) (R : List Rt), ∃ (i : Nat) (er : Int), (runB m R (xs ++ c :: ys)).1 = some (i, er) ∧ i ≤ xs.length ∧ er ≠ 0
  | [], R => ⟨0, cmErr m R c, by simp only [List.nil_append, runB]; rw [if_neg (hc R)], Nat.zero_le _, hc R⟩
  | x :: xs, R => by
    by_cases h : cmErr m R x = 0
    · obtain ⟨i, er, h1, h2, h3⟩ := runB_bad hc ys xs (cmSet R x)
      refine ⟨i + 1, er, ?_, by simp; omega, h3⟩
      simp only [List.cons_append, runB]
      rw [if_pos h]
      simp [h1]
    · exact ⟨0, cmErr m R x, by simp only [List.cons_append, runB]; rw [if_neg h], Nat.zero_le _, h⟩
theorem doB_bad {m : Lim} {c : Cm} (hc : ∀ R, cmErr m R c ≠ 0) (xs ys : List Cm) (R : List Rt) : ∃ (i : Nat) (er : Int), doB m R (xs ++ c :: ys) = ((i : Int), er, R) ∧ i ≤ xs.length ∧ er ≠ 0 := by
  obtain ⟨i, er, h1, h2, h3⟩ := runB_bad hc ys xs R
  refine ⟨i, er, ?_, h2, h3⟩
  unfold doB
  rw [h1]
end Go.Proofs.Ytcnecjjgnnkjkaa
