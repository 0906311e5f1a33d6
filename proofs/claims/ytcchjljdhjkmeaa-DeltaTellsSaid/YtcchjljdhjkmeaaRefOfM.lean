/-
  What the document's Of says, in plain lists: of all keys in order, those at which two rows are unlike. No condition.
-/
import Derived.Test.YtcchjljdhjkmeaaDeltaFewM
namespace Go.Proofs.Ytcchjljdhjkmeaa
open Go.RowKit
set_option linter.unusedVariables false
set_option linter.unusedSimpArgs false

/-- What turns at a key. -/
def chAt (F T : List Rt) (k : Pf) : List Ch := if lookR F k = lookR T k then [] else [(k, (lookR F k).getD (-1), (lookR T k).getD (-1))]
def refD (F T all : List Rt) : List Ch := all.flatMap (fun r => chAt F T r.1)
theorem refD_snoc {F T all : List Rt} {j : Nat} {x : Rt} (h : all[j]? = some x) : refD F T (all.take (j + 1)) = refD F T (all.take j) ++ chAt F T x.1 := by
  obtain ⟨hj, e⟩ := List.getElem?_eq_some_iff.1 h
  unfold refD
  rw [List.take_succ_eq_append_getElem hj, e, List.flatMap_append]
  simp
theorem refD_len (F T all : List Rt) : (refD F T all).length ≤ all.length := by
  induction all with
  | nil => simp [refD]
  | cons x l ih =>
    unfold refD at ih ⊢
    rw [List.flatMap_cons, List.length_append]
    have : (chAt F T x.1).length ≤ 1 := by unfold chAt; split <;> simp
    simp only [List.length_cons]
    omega
theorem key_sorted (l : List Rt) : ∀ r ∈ l, ∃ x ∈ sortedL l, x.1 = r.1 := by
  refine snoc_ind (p := fun l => ∀ r ∈ l, ∃ x ∈ sortedL l, x.1 = r.1) ?_ ?_ l
  · intro r hr; simp at hr
  · intro l y ih r hr
    rw [sortedL_snoc]
    by_cases e : r.1 = y.1
    · exact ⟨y, (into_has (sorted_ord l)).2 (.inl rfl), e.symm⟩
    · have hr2 : r ∈ l := by
        rcases List.mem_append.1 hr with h | h
        · exact h
        · rw [List.mem_singleton] at h; exact absurd (by rw [h]) e
      obtain ⟨x, hx, ex⟩ := ih r hr2
      exact ⟨x, (into_has (sorted_ord l)).2 (.inr ⟨hx, by rw [ex]; exact e⟩), ex⟩
theorem ch_unique : ∀ {l k : List Ch}, l.Pairwise (fun x y => x.1.lt y.1) → k.Pairwise (fun x y => x.1.lt y.1) → (∀ r, r ∈ l ↔ r ∈ k) → l = k
  | [], [], _, _, _ => rfl
  | [], y :: k, _, _, h => by have := (h y).2 (by simp); simp at this
  | x :: l, [], _, _, h => by have := (h x).1 (by simp); simp at this
  | x :: l, y :: k, hl, hk, h => by
    rw [List.pairwise_cons] at hl hk
    have hxy : x = y := by
      rcases List.mem_cons.1 ((h x).1 (by simp)) with e | e
      · exact e
      · rcases List.mem_cons.1 ((h y).2 (by simp)) with e2 | e2
        · exact e2.symm
        · exact absurd (hl.1 y e2) (pf_lt_asymm (hk.1 x e))
    subst hxy
    rw [ch_unique hl.2 hk.2 fun r => ?_]
    constructor
    · intro hr
      rcases List.mem_cons.1 ((h r).1 (by simp [hr])) with e | e
      · subst e; exact absurd (hl.1 _ hr) (pf_lt_irrefl _)
      · exact e
    · intro hr
      rcases List.mem_cons.1 ((h r).2 (by simp [hr])) with e | e
      · subst e; exact absurd (hk.1 _ hr) (pf_lt_irrefl _)
      · exact e
theorem chAt_mem {F T : List Rt} {k : Pf} {c : Ch} : c ∈ chAt F T k ↔ c.1 = k ∧ IsChg F T c := by
  unfold chAt IsChg
  obtain ⟨q, o, n⟩ := c
  by_cases e : lookR F k = lookR T k
  · rw [if_pos e]
    constructor
    · intro h; simp at h
    · rintro ⟨h1, h2, _⟩; simp only at h1 h2; subst h1; exact absurd e h2
  · rw [if_neg e, List.mem_singleton]
    constructor
    · intro h
      injection h with h1 h2
      injection h2 with h2 h3
      subst h1 h2 h3
      exact ⟨rfl, e, rfl, rfl⟩
    · rintro ⟨h1, _, h2, h3⟩
      simp only at h1 h2 h3
      subst h1 h2 h3
      rfl
theorem refD_is {F T : List Rt} (hF : SL F) (hT : SL T) : refD F T (sortedL (F ++ T)) = mergeD F T := by
  refine ch_unique ?_ (merge_sorted hF hT) fun c => ?_
  · unfold refD
    rw [List.pairwise_flatMap]
    constructor
    · intro r _
      unfold chAt
      split <;> simp
    · refine (sorted_ord (F ++ T)).imp fun {a b} h x hx y hy => ?_
      rw [(chAt_mem.1 hx).1, (chAt_mem.1 hy).1]
      exact h
  · rw [merge_is hF hT]
    unfold refD
    rw [List.mem_flatMap]
    constructor
    · rintro ⟨r, _, hc⟩; exact (chAt_mem.1 hc).2
    · intro h
      have hk : ∃ r ∈ F ++ T, r.1 = c.1 := by
        cases e1 : lookR F c.1 with
        | some v => exact ⟨(c.1, v), List.mem_append.2 (.inl ((lookR_mem hF).1 e1)), rfl⟩
        | none =>
          cases e2 : lookR T c.1 with
          | some v => exact ⟨(c.1, v), List.mem_append.2 (.inr ((lookR_mem hT).1 e2)), rfl⟩
          | none => exact absurd (e1.trans e2.symm) h.1
      obtain ⟨r, hr, er⟩ := hk
      obtain ⟨x, hx, ex⟩ := key_sorted _ r hr
      exact ⟨x, hx, chAt_mem.2 ⟨by rw [ex, er], h⟩⟩
end Go.Proofs.Ytcchjljdhjkmeaa
