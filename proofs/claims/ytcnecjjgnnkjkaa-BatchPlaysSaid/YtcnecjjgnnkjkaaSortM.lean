/-
  What sorting stably and keeping the first of alike ones makes of a list turned round: each prefix once, in order, with what was given last. Plain lists. No condition.
-/
import Derived.Test.YtcnecjjgnnkjkaaStab9
import Derived.Test.YtcnecjjgnnkjkaaSorted
import Derived.Test.YtcnecjjgnnkjkaaGSlc
namespace Go.Proofs.Ytcnecjjgnnkjkaa
open Go.RowKit
set_option linter.unusedVariables false
set_option linter.unusedSimpArgs false

/-- x is what was given last of its prefix. -/
def IsLast (l : List Rt) (x : Rt) : Prop := ∃ A B, l = A ++ x :: B ∧ ∀ y ∈ B, y.1 ≠ x.1
theorem sortedL_snoc (l : List Rt) (r : Rt) : sortedL (l ++ [r]) = intoL (sortedL l) r := by unfold sortedL; rw [List.foldl_append]; rfl
theorem snoc_ind {α : Type} {p : List α → Prop} (h0 : p []) (h1 : ∀ l x, p l → p (l ++ [x])) (l : List α) : p l := by
  have : ∀ k (l : List α), l.length = k → p l := by
    intro k
    induction k with
    | zero => intro l h; rw [List.length_eq_zero_iff.1 h]; exact h0
    | succ k ih =>
      intro l h
      rcases List.eq_nil_or_concat l with e | ⟨l', x, e⟩
      · subst e; exact h0
      · rw [List.concat_eq_append] at e; subst e; exact h1 _ _ (ih _ (by simpa using h))
  exact this _ l rfl
theorem sorted_has (l : List Rt) (x : Rt) : x ∈ sortedL l ↔ IsLast l x := by
  revert x
  refine snoc_ind (p := fun l => ∀ x, x ∈ sortedL l ↔ IsLast l x) ?_ ?_ l
  · intro x
    constructor
    · intro h; simp [sortedL] at h
    · rintro ⟨A, B, h, _⟩; simp at h
  · intro l r ih x
    rw [sortedL_snoc, into_has (sorted_ord l), ih]
    constructor
    · rintro (rfl | ⟨⟨A, B, rfl, h⟩, hn⟩)
      · exact ⟨l, [], by simp, fun y hy => by simp at hy⟩
      · refine ⟨A, B ++ [r], by simp, fun y hy => ?_⟩
        rcases List.mem_append.1 hy with hy | hy
        · exact h y hy
        · rw [List.mem_singleton.1 hy]; exact fun e => hn e.symm
    · rintro ⟨A, B, h, hB⟩
      rcases List.eq_nil_or_concat B with e | ⟨B', y, e⟩
      · subst e
        have := List.append_inj_right' h (by simp)
        simp at this; exact .inl this.symm
      · rw [List.concat_eq_append] at e; subst e
        have h' : l ++ [r] = (A ++ x :: B') ++ [y] := by rw [h]; simp
        have e1 := List.append_inj_left' h' (by simp)
        have e2 := List.append_inj_right' h' (by simp)
        simp at e2; subst e2
        exact .inr ⟨⟨A, B', e1, fun z hz => hB z (by simp [hz])⟩, fun e => hB r (by simp) e.symm⟩

/-- Of alike neighbours only the first; p: the prefix ahead. -/
def compA : Pf → List Tg → List Tg
  | _, [] => []
  | p, y :: l => if y.1.1 = p then compA y.1.1 l else y :: compA y.1.1 l
def compT : List Tg → List Tg
  | [] => []
  | x :: l => x :: compA x.1.1 l
theorem compA_same {p : Pf} {y : Tg} {l : List Tg} (h : y.1.1 = p) : compA p (y :: l) = compA y.1.1 l := by rw [compA, if_pos h]
theorem compA_new {p : Pf} {y : Tg} {l : List Tg} (h : y.1.1 ≠ p) : compA p (y :: l) = y :: compA y.1.1 l := by rw [compA, if_neg h]
theorem compA_len (p : Pf) (l : List Tg) : (compA p l).length ≤ l.length := by
  induction l generalizing p with
  | nil => simp [compA]
  | cons y l ih =>
    by_cases h : y.1.1 = p
    · rw [compA_same h]; have := ih y.1.1; simp; omega
    · rw [compA_new h]; have := ih y.1.1; simp; omega
theorem compT_len (l : List Tg) : (compT l).length ≤ l.length := by
  cases l with
  | nil => simp [compT]
  | cons x l => rw [compT]; have := compA_len x.1.1 l; simp; omega
theorem tl_not_lt {x y : Tg} (h : tl x y) : ¬ y.1.1.lt x.1.1 := by
  rcases h with h | ⟨h, _⟩
  · exact pf_lt_asymm h
  · rw [h]; exact pf_lt_irrefl _
theorem compA_mem {l : List Tg} : ∀ {p : Pf}, l.Pairwise tl → (∀ y ∈ l, ¬ y.1.1.lt p) → ∀ z, z ∈ compA p l ↔ z ∈ l ∧ z.1.1 ≠ p ∧ ∀ w ∈ l, w.1.1 = z.1.1 → z.2 ≤ w.2 := by
  induction l with
  | nil => intro p _ _ z; simp [compA]
  | cons y l ih =>
    intro p hs hp z
    have hy := hp y (by simp)
    have hs' := List.pairwise_cons.1 hs
    have ih' := ih (p := y.1.1) hs'.2 (fun w hw => tl_not_lt (hs'.1 w hw)) z
    by_cases h : y.1.1 = p
    · rw [compA_same h, ih']
      constructor
      · rintro ⟨h1, h2, h3⟩
        refine ⟨by simp [h1], by rw [← h]; exact h2, fun w hw e => ?_⟩
        rcases List.mem_cons.1 hw with rfl | hw
        · exact absurd e.symm h2
        · exact h3 w hw e
      · rintro ⟨h1, h2, h3⟩
        rcases List.mem_cons.1 h1 with rfl | h1
        · exact absurd h h2
        · exact ⟨h1, by rw [h]; exact h2, fun w hw e => h3 w (by simp [hw]) e⟩
    · rw [compA_new h, List.mem_cons, ih']
      have hlt : p.lt y.1.1 := (pf_lt_total h).resolve_left hy
      constructor
      · rintro (rfl | ⟨h1, h2, h3⟩)
        · refine ⟨by simp, h, fun w hw e => ?_⟩
          rcases List.mem_cons.1 hw with rfl | hw
          · exact Nat.le_refl _
          · rcases hs'.1 w hw with k | ⟨_, k⟩
            · rw [e] at k; exact absurd k (pf_lt_irrefl _)
            · exact Nat.le_of_lt k
        · refine ⟨by simp [h1], ?_, fun w hw e => ?_⟩
          · intro e
            rcases hs'.1 z h1 with k | ⟨k, _⟩
            · rw [e] at k; exact pf_lt_asymm hlt k
            · exact h (k.trans e)
          · rcases List.mem_cons.1 hw with rfl | hw
            · exact absurd e.symm h2
            · exact h3 w hw e
      · rintro ⟨h1, h2, h3⟩
        rcases List.mem_cons.1 h1 with rfl | h1
        · exact .inl rfl
        · refine .inr ⟨h1, ?_, fun w hw e => h3 w (by simp [hw]) e⟩
          intro e
          have k2 := h3 y (by simp) e.symm
          rcases hs'.1 z h1 with k | ⟨_, k⟩
          · rw [e] at k; exact pf_lt_irrefl _ k
          · omega
theorem compA_ord {l : List Tg} : ∀ {p : Pf}, l.Pairwise tl → (∀ y ∈ l, ¬ y.1.1.lt p) → (compA p l).Pairwise (fun x y => x.1.1.lt y.1.1) ∧ ∀ z ∈ compA p l, p.lt z.1.1 := by
  induction l with
  | nil => intro p _ _; simp [compA]
  | cons y l ih =>
    intro p hs hp
    have hy := hp y (by simp)
    have hs' := List.pairwise_cons.1 hs
    have ih' := ih (p := y.1.1) hs'.2 (fun w hw => tl_not_lt (hs'.1 w hw))
    by_cases h : y.1.1 = p
    · rw [compA_same h]; rw [h] at ih' ⊢; exact ih'
    · rw [compA_new h]
      have hlt : p.lt y.1.1 := (pf_lt_total h).resolve_left hy
      refine ⟨List.pairwise_cons.2 ⟨ih'.2, ih'.1⟩, fun z hz => ?_⟩
      rcases List.mem_cons.1 hz with rfl | hz
      · exact hlt
      · exact pf_lt_trans hlt (ih'.2 z hz)
theorem compT_ord {l : List Tg} (h : l.Pairwise tl) : (compT l).Pairwise (fun x y => x.1.1.lt y.1.1) := by
  cases l with
  | nil => simp [compT]
  | cons x l =>
    have h' := List.pairwise_cons.1 h
    have k := compA_ord (p := x.1.1) h'.2 (fun w hw => tl_not_lt (h'.1 w hw))
    rw [compT]; exact List.pairwise_cons.2 ⟨k.2, k.1⟩
theorem compT_mem {l : List Tg} (h : l.Pairwise tl) (z : Tg) : z ∈ compT l ↔ z ∈ l ∧ ∀ w ∈ l, w.1.1 = z.1.1 → z.2 ≤ w.2 := by
  cases l with
  | nil => simp [compT]
  | cons x l =>
    have h' := List.pairwise_cons.1 h
    have k := compA_mem (p := x.1.1) h'.2 (fun w hw => tl_not_lt (h'.1 w hw)) z
    rw [compT, List.mem_cons, k]
    constructor
    · rintro (rfl | ⟨h1, h2, h3⟩)
      · refine ⟨by simp, fun w hw e => ?_⟩
        rcases List.mem_cons.1 hw with rfl | hw
        · exact Nat.le_refl _
        · rcases h'.1 w hw with k | ⟨_, k⟩
          · rw [e] at k; exact absurd k (pf_lt_irrefl _)
          · exact Nat.le_of_lt k
      · refine ⟨by simp [h1], fun w hw e => ?_⟩
        rcases List.mem_cons.1 hw with rfl | hw
        · exact absurd e.symm h2
        · exact h3 w hw e
    · rintro ⟨h1, h3⟩
      rcases List.mem_cons.1 h1 with rfl | h1
      · exact .inl rfl
      · refine .inr ⟨h1, fun e => ?_, fun w hw e => h3 w (by simp [hw]) e⟩
        have k2 := h3 x (by simp) e.symm
        rcases h'.1 z h1 with k | ⟨_, k⟩
        · rw [e] at k; exact pf_lt_irrefl _ k
        · omega

/-- A list with its places as numbers. -/
def tagsOf (l : List Rt) : List Tg := l.mapIdx fun i r => (r, i)
theorem tagsOf_map (l : List Rt) : (tagsOf l).map (·.1) = l := by
  unfold tagsOf
  apply List.ext_getElem?
  intro i
  simp only [List.getElem?_map, List.getElem?_mapIdx]
  cases l[i]? <;> rfl
theorem tagsOf_len (l : List Rt) : (tagsOf l).length = l.length := by simp [tagsOf]
theorem tagsOf_tags (l : List Rt) : Tags (tagsOf l) := by
  unfold Tags
  rw [List.pairwise_iff_getElem]
  intro i j hi hj hij
  simpa [tagsOf] using hij
theorem sort_is {l : List Rt} {L U : List Tg} (hL : L.map (·.1) = l.reverse) (ht : Tags L) (hp : U.Perm L) (hu : U.Pairwise tl) : (compT U).map (·.1) = sortedL l := by
  refine ord_unique ?_ (sorted_ord l) fun x => ?_
  · exact (List.pairwise_map.2 (compT_ord hu))
  rw [sorted_has, List.mem_map]
  have hmem : ∀ z, z ∈ compT U ↔ z ∈ L ∧ ∀ w ∈ L, w.1.1 = z.1.1 → z.2 ≤ w.2 := fun z => by
    rw [compT_mem hu z, hp.mem_iff]
    exact ⟨fun h => ⟨h.1, fun w hw e => h.2 w (hp.mem_iff.2 hw) e⟩, fun h => ⟨h.1, fun w hw e => h.2 w (hp.mem_iff.1 hw) e⟩⟩
  constructor
  · rintro ⟨z, hz, rfl⟩
    obtain ⟨h1, h2⟩ := (hmem z).1 hz
    obtain ⟨P, Q, e⟩ := List.append_of_mem h1
    subst e
    have e2 : l = (Q.map (·.1)).reverse ++ z.1 :: (P.map (·.1)).reverse := by
      have := congrArg List.reverse hL
      rw [List.reverse_reverse] at this
      rw [← this]; simp
    refine ⟨_, _, e2, fun y hy e => ?_⟩
    rw [List.mem_reverse, List.mem_map] at hy
    obtain ⟨y', hy', rfl⟩ := hy
    have k1 := h2 y' (by simp [hy']) e
    have k2 := (List.pairwise_append.1 ht).2.2 y' hy' z (by simp)
    omega
  · rintro ⟨A, B, e, hB⟩
    subst e
    have e2 : L.map (·.1) = B.reverse ++ x :: A.reverse := by rw [hL]; simp
    obtain ⟨P, Q', e3, e4, e5⟩ := List.map_eq_append_iff.1 e2
    obtain ⟨z, Q, e6, e7, e8⟩ := List.map_eq_cons_iff.1 e5
    subst e6 e3 e7
    have k := List.pairwise_append.1 ht
    have k2 := List.pairwise_cons.1 k.2.1
    refine ⟨z, (hmem z).2 ⟨by simp, fun w hw e => ?_⟩, rfl⟩
    rcases List.mem_append.1 hw with hw | hw
    · exact absurd e (hB w.1 (by have := List.mem_map_of_mem (f := (·.1)) hw; rw [e4] at this; simpa using this))
    · rcases List.mem_cons.1 hw with rfl | hw
      · exact Nat.le_refl _
      · exact Nat.le_of_lt (k2.1 w hw)

end Go.Proofs.Ytcnecjjgnnkjkaa
