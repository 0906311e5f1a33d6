/-
  What turns between two lists in order: which keys, in which order, turned back, and one by one. Plain lists. No condition.
-/
import Derived.Test.YtcnecjjgnnkjkaaDeltaM
namespace Go.Proofs.Ytcnecjjgnnkjkaa
open Go.RowKit
set_option linter.unusedVariables false
set_option linter.unusedSimpArgs false

def SL (l : List Rt) : Prop := l.Pairwise (fun x y => x.1.lt y.1)
/-- What a list has at a prefix. -/
def lookR (l : List Rt) (p : Pf) : Option Int := (l.find? (fun r => decide (r.1 = p))).map (·.2)
theorem lookR_nil (p : Pf) : lookR [] p = none := rfl
theorem lookR_here (x : Rt) (l : List Rt) : lookR (x :: l) x.1 = some x.2 := by simp [lookR]
theorem lookR_there {x : Rt} {p : Pf} (l : List Rt) (h : x.1 ≠ p) : lookR (x :: l) p = lookR l p := by simp [lookR, h]
theorem lookR_none {l : List Rt} {p : Pf} : lookR l p = none ↔ ∀ r ∈ l, r.1 ≠ p := by
  unfold lookR
  rw [Option.map_eq_none_iff, List.find?_eq_none]
  simp
theorem lookR_mem {l : List Rt} (hs : SL l) {p : Pf} {v : Int} : lookR l p = some v ↔ (p, v) ∈ l := by
  induction l with
  | nil => simp [lookR]
  | cons x l ih =>
    have hs' := List.pairwise_cons.1 hs
    by_cases h : x.1 = p
    · subst h
      rw [lookR_here, List.mem_cons]
      constructor
      · intro e; injection e with e; exact .inl (by rw [← e])
      · rintro (e | e)
        · rw [← e]
        · exact absurd (hs'.1 _ e) (pf_lt_irrefl _)
    · rw [lookR_there l h, ih hs'.2, List.mem_cons]
      constructor
      · exact fun e => .inr e
      · rintro (e | e)
        · exact absurd (by rw [← e]) h
        · exact e
/-- All of l are behind p. -/
theorem lookR_ahead {l : List Rt} {p q : Pf} (h : ∀ r ∈ l, p.lt r.1) (hq : q = p ∨ q.lt p) : lookR l q = none := by
  rw [lookR_none]
  intro r hr e
  have := h r hr
  rcases hq with rfl | hq
  · rw [e] at this; exact pf_lt_irrefl _ this
  · rw [e] at this; exact pf_lt_asymm this hq
theorem look_ext {a b : List Rt} (ha : SL a) (hb : SL b) (h : ∀ p, lookR a p = lookR b p) : a = b := by
  refine ord_unique ha hb fun r => ?_
  obtain ⟨p, v⟩ := r
  rw [← lookR_mem ha, ← lookR_mem hb, h]

/-- What may stand in a row of changes. -/
def IsChg (a b : List Rt) (c : Ch) : Prop := lookR a c.1 ≠ lookR b c.1 ∧ c.2.1 = (lookR a c.1).getD (-1) ∧ c.2.2 = (lookR b c.1).getD (-1)
theorem merge_mem : ∀ (n : Nat) (a b : List Rt), a.length + b.length ≤ n → SL a → SL b → ∀ c, c ∈ mergeD a b ↔ IsChg a b c := by
  intro n
  induction n with
  | zero =>
    intro a b h _ _ c
    have ha : a = [] := List.length_eq_zero_iff.1 (by omega)
    have hb : b = [] := List.length_eq_zero_iff.1 (by omega)
    subst ha hb
    simp [mergeD_nil, IsChg]
  | succ n ih =>
    intro a b h hsa hsb c
    have take_l : ∀ (x : Rt) (a b : List Rt), SL (x :: a) → (∀ r ∈ b, x.1.lt r.1) → (∀ c, c ∈ mergeD a b ↔ IsChg a b c) → ∀ c, c ∈ ((x.1, x.2, -1) :: mergeD a b : List Ch) ↔ IsChg (x :: a) b c := by
      intro x a b hs hb ih c
      have hs' := List.pairwise_cons.1 hs
      rw [List.mem_cons, ih]
      by_cases e : x.1 = c.1
      · have l1 : lookR (x :: a) c.1 = some x.2 := by rw [← e]; exact lookR_here x a
        have l2 : lookR b c.1 = none := lookR_ahead hb (.inl e.symm)
        have l3 : lookR a c.1 = none := lookR_ahead hs'.1 (.inl e.symm)
        unfold IsChg
        rw [l1, l2, l3]
        obtain ⟨k, o, m⟩ := c
        simp only at e
        subst e
        simp [Prod.ext_iff]
      · unfold IsChg
        rw [lookR_there a e]
        constructor
        · rintro (k | k)
          · exact absurd (by rw [k]) e
          · exact k
        · exact fun k => .inr k
    have take_r : ∀ (y : Rt) (a b : List Rt), SL (y :: b) → (∀ r ∈ a, y.1.lt r.1) → (∀ c, c ∈ mergeD a b ↔ IsChg a b c) → ∀ c, c ∈ ((y.1, -1, y.2) :: mergeD a b : List Ch) ↔ IsChg a (y :: b) c := by
      intro x a b hs hb ih c
      have hs' := List.pairwise_cons.1 hs
      rw [List.mem_cons, ih]
      by_cases e : x.1 = c.1
      · have l1 : lookR (x :: b) c.1 = some x.2 := by rw [← e]; exact lookR_here x b
        have l2 : lookR a c.1 = none := lookR_ahead hb (.inl e.symm)
        have l3 : lookR b c.1 = none := lookR_ahead hs'.1 (.inl e.symm)
        unfold IsChg
        rw [l1, l2, l3]
        obtain ⟨k, o, m⟩ := c
        simp only at e
        subst e
        simp [Prod.ext_iff]
      · unfold IsChg
        rw [lookR_there b e]
        constructor
        · rintro (k | k)
          · exact absurd (by rw [k]) e
          · exact k
        · exact fun k => .inr k
    cases a with
    | nil =>
      cases b with
      | nil => simp [mergeD_nil, IsChg]
      | cons y b =>
        rw [mergeD_r]
        exact take_r y [] b hsb (fun r hr => by simp at hr) (ih [] b (by simp at *; omega) hsa (List.pairwise_cons.1 hsb).2) c
    | cons x a =>
      have hsa' := List.pairwise_cons.1 hsa
      cases b with
      | nil =>
        rw [mergeD_l]
        exact take_l x a [] hsa (fun r hr => by simp at hr) (ih a [] (by simp at *; omega) hsa'.2 hsb) c
      | cons y b =>
        have hsb' := List.pairwise_cons.1 hsb
        rw [mergeD_lr]
        split
        · next hlt =>
          exact take_l x a (y :: b) hsa (fun r hr => by
            rcases List.mem_cons.1 hr with rfl | hr
            · exact hlt
            · exact pf_lt_trans hlt (hsb'.1 r hr)) (ih a (y :: b) (by simp at *; omega) hsa'.2 hsb) c
        · next hlt =>
          split
          · next hgt =>
            exact take_r y (x :: a) b hsb (fun r hr => by
              rcases List.mem_cons.1 hr with rfl | hr
              · exact hgt
              · exact pf_lt_trans hgt (hsa'.1 r hr)) (ih (x :: a) b (by simp at *; omega) hsa hsb'.2) c
          · next hgt =>
            have hxy : x.1 = y.1 := by
              by_cases e : x.1 = y.1
              · exact e
              · rcases pf_lt_total e with k | k
                · exact absurd k hlt
                · exact absurd k hgt
            have hi := ih a b (by simp at *; omega) hsa'.2 hsb'.2 c
            rw [List.mem_append, hi]
            by_cases e : x.1 = c.1
            · have l1 : lookR (x :: a) c.1 = some x.2 := by rw [← e]; exact lookR_here x a
              have l2 : lookR (y :: b) c.1 = some y.2 := by rw [← e, hxy]; exact lookR_here y b
              have l3 : lookR a c.1 = none := lookR_ahead hsa'.1 (.inl e.symm)
              have l4 : lookR b c.1 = none := lookR_ahead hsb'.1 (.inl (by rw [← e, hxy]))
              unfold IsChg
              rw [l1, l2, l3, l4]
              obtain ⟨k, o, m⟩ := c
              simp only at e
              subst e
              by_cases hv : x.2 = y.2
              · simp [hv]
              · simp [hv, Prod.ext_iff]
            · unfold IsChg
              rw [lookR_there a e, lookR_there b (by rw [← hxy]; exact e)]
              constructor
              · rintro (k | k)
                · split at k
                  · simp at k
                  · exact absurd (by rw [List.mem_singleton.1 k]) e
                · exact k
              · exact fun k => .inr k
theorem merge_is {a b : List Rt} (ha : SL a) (hb : SL b) (c : Ch) : c ∈ mergeD a b ↔ IsChg a b c := merge_mem _ a b (Nat.le_refl _) ha hb c
/-- The keys stand in order. -/
theorem merge_ord : ∀ (n : Nat) (a b : List Rt), a.length + b.length ≤ n → SL a → SL b → (mergeD a b).Pairwise (fun x y => x.1.lt y.1) := by
  intro n
  induction n with
  | zero =>
    intro a b h _ _
    have ha : a = [] := List.length_eq_zero_iff.1 (by omega)
    have hb : b = [] := List.length_eq_zero_iff.1 (by omega)
    subst ha hb
    simp [mergeD_nil]
  | succ n ih =>
    intro a b h hsa hsb
    have behind : ∀ (p : Pf) (a b : List Rt), SL a → SL b → (∀ r ∈ a, p.lt r.1) → (∀ r ∈ b, p.lt r.1) → ∀ c ∈ mergeD a b, p.lt c.1 := by
      intro p a b ha hb h1 h2 c hc
      have hi := (merge_is ha hb c).1 hc
      by_cases e1 : lookR a c.1 = none
      · by_cases e2 : lookR b c.1 = none
        · exact absurd (by rw [e1, e2]) hi.1
        · obtain ⟨v, hv⟩ := Option.ne_none_iff_exists'.1 e2
          exact h2 _ ((lookR_mem hb).1 hv)
      · obtain ⟨v, hv⟩ := Option.ne_none_iff_exists'.1 e1
        exact h1 _ ((lookR_mem ha).1 hv)
    cases a with
    | nil =>
      cases b with
      | nil => simp [mergeD_nil]
      | cons y b =>
        have hsb' := List.pairwise_cons.1 hsb
        rw [mergeD_r]
        exact List.pairwise_cons.2 ⟨behind y.1 [] b hsa hsb'.2 (fun r hr => by simp at hr) hsb'.1, ih [] b (by simp at *; omega) hsa hsb'.2⟩
    | cons x a =>
      have hsa' := List.pairwise_cons.1 hsa
      cases b with
      | nil =>
        rw [mergeD_l]
        exact List.pairwise_cons.2 ⟨behind x.1 a [] hsa'.2 hsb hsa'.1 (fun r hr => by simp at hr), ih a [] (by simp at *; omega) hsa'.2 hsb⟩
      | cons y b =>
        have hsb' := List.pairwise_cons.1 hsb
        rw [mergeD_lr]
        split
        · next hlt =>
          exact List.pairwise_cons.2 ⟨behind x.1 a (y :: b) hsa'.2 hsb hsa'.1 (fun r hr => by
            rcases List.mem_cons.1 hr with rfl | hr
            · exact hlt
            · exact pf_lt_trans hlt (hsb'.1 r hr)), ih a (y :: b) (by simp at *; omega) hsa'.2 hsb⟩
        · next hlt =>
          split
          · next hgt =>
            exact List.pairwise_cons.2 ⟨behind y.1 (x :: a) b hsa hsb'.2 (fun r hr => by
              rcases List.mem_cons.1 hr with rfl | hr
              · exact hgt
              · exact pf_lt_trans hgt (hsa'.1 r hr)) hsb'.1, ih (x :: a) b (by simp at *; omega) hsa hsb'.2⟩
          · next hgt =>
            have hxy : x.1 = y.1 := by
              by_cases e : x.1 = y.1
              · exact e
              · rcases pf_lt_total e with k | k
                · exact absurd k hlt
                · exact absurd k hgt
            have hi := ih a b (by simp at *; omega) hsa'.2 hsb'.2
            split
            · exact hi
            · exact List.pairwise_cons.2 ⟨behind x.1 a b hsa'.2 hsb'.2 hsa'.1 (fun r hr => by rw [hxy]; exact hsb'.1 r hr), hi⟩
theorem merge_sorted {a b : List Rt} (ha : SL a) (hb : SL b) : (mergeD a b).Pairwise (fun x y => x.1.lt y.1) := merge_ord _ a b (Nat.le_refl _) ha hb

/-- Turned round. -/
def flipC (c : Ch) : Ch := (c.1, c.2.2, c.2.1)
theorem merge_flip : ∀ (n : Nat) (a b : List Rt), a.length + b.length ≤ n → mergeD b a = (mergeD a b).map flipC := by
  intro n
  induction n with
  | zero =>
    intro a b h
    have ha : a = [] := List.length_eq_zero_iff.1 (by omega)
    have hb : b = [] := List.length_eq_zero_iff.1 (by omega)
    subst ha hb
    rfl
  | succ n ih =>
    intro a b h
    cases a with
    | nil =>
      cases b with
      | nil => rfl
      | cons y b => rw [mergeD_r, mergeD_l, List.map_cons, ih [] b (by simp at *; omega)]; rfl
    | cons x a =>
      cases b with
      | nil => rw [mergeD_r, mergeD_l, List.map_cons, ih a [] (by simp at *; omega)]; rfl
      | cons y b =>
        rw [mergeD_lr, mergeD_lr]
        by_cases hlt : x.1.lt y.1
        · rw [if_neg (pf_lt_asymm hlt), if_pos hlt, if_pos hlt, List.map_cons, ih a (y :: b) (by simp at *; omega)]; rfl
        · by_cases hgt : y.1.lt x.1
          · rw [if_pos hgt, if_neg hlt, if_pos hgt, List.map_cons, ih (x :: a) b (by simp at *; omega)]; rfl
          · have hxy : x.1 = y.1 := by
              by_cases e : x.1 = y.1
              · exact e
              · rcases pf_lt_total e with k | k
                · exact absurd k hlt
                · exact absurd k hgt
            rw [if_neg hgt, if_neg hlt, if_neg hlt, if_neg hgt, List.map_append, ih a b (by simp at *; omega)]
            by_cases hv : x.2 = y.2
            · rw [if_pos hv, if_pos hv.symm]; rfl
            · rw [if_neg hv, if_neg (fun k => hv k.symm), hxy]; rfl
theorem merge_back (a b : List Rt) : mergeD b a = (mergeD a b).map flipC := merge_flip _ a b (Nat.le_refl _)
theorem merge_self : ∀ (a : List Rt), mergeD a a = []
  | [] => rfl
  | x :: a => by
    rw [mergeD_lr, if_neg (pf_lt_irrefl _), if_neg (pf_lt_irrefl _), if_pos rfl, merge_self a]; rfl

/-- One change done. -/
def doC (l : List Rt) (c : Ch) : List Rt := if 0 ≤ c.2.2 then intoL l (c.1, c.2.2) else withoutL l c.1
theorem look_into {l : List Rt} (hs : SL l) (r : Rt) (p : Pf) : lookR (intoL l r) p = if p = r.1 then some r.2 else lookR l p := by
  have ho := into_ord hs r
  apply Option.ext
  intro v
  rw [lookR_mem ho, into_has hs]
  by_cases e : p = r.1
  · rw [if_pos e]
    constructor
    · rintro (k | ⟨_, k⟩)
      · rw [← k]
      · exact absurd e k
    · intro k; injection k with k; left; rw [e, ← k]
  · rw [if_neg e, lookR_mem hs]
    constructor
    · rintro (k | ⟨k, _⟩)
      · exact absurd (by rw [← k]) e
      · exact k
    · exact fun k => .inr ⟨k, e⟩
theorem without_SL {l : List Rt} (hs : SL l) (p : Pf) : SL (withoutL l p) := hs.filter _
theorem look_without {l : List Rt} (hs : SL l) (q p : Pf) : lookR (withoutL l q) p = if p = q then none else lookR l p := by
  apply Option.ext
  intro v
  rw [lookR_mem (without_SL hs q), without_has]
  by_cases e : p = q
  · rw [if_pos e]; simp [e]
  · rw [if_neg e, lookR_mem hs]; simp [e]
theorem find_look {l : List Rt} (p : Pf) : (lookR l p = none → findI l p = -1) ∧ (∀ v, lookR l p = some v → ∃ k : Nat, findI l p = (k : Int) ∧ l[k]? = some (p, v)) := by
  unfold findI lookR
  constructor
  · intro h
    rw [Option.map_eq_none_iff] at h
    have : l.findIdx? (fun r => decide (r.1 = p)) = none := by
      rw [List.findIdx?_eq_none_iff]; intro x hx; have := List.find?_eq_none.1 h x hx; simpa using this
    rw [this]
  · intro v h
    rw [Option.map_eq_some_iff] at h
    obtain ⟨r, hr, rfl⟩ := h
    have hp : r.1 = p := by have := List.find?_some hr; simpa using this
    obtain ⟨hi, A, B, e, hA⟩ := List.find?_eq_some_iff_append.1 hr
    have hk : l.findIdx? (fun r => decide (r.1 = p)) = some A.length := by
      rw [e, List.findIdx?_append]
      have : A.findIdx? (fun r => decide (r.1 = p)) = none := by
        rw [List.findIdx?_eq_none_iff]; intro x hx; have := hA x hx; simpa using this
      rw [this]
      simp [List.findIdx?_cons, hp]
    rw [hk]
    refine ⟨A.length, rfl, ?_⟩
    rw [e, List.getElem?_append_right (Nat.le_refl _)]
    simp [← hp]
/-- The first j changes done. -/
structure Turned (a b : List Rt) (j : Nat) (now : List Rt) : Prop where
  s : SL now
  l : now.length ≤ a.length + j
  v : ∀ p, lookR now p = if ∃ c ∈ (mergeD a b).take j, c.1 = p then lookR b p else lookR a p
theorem Turned.start {a b : List Rt} (ha : SL a) : Turned a b 0 a := ⟨ha, by omega, fun p => by simp⟩
def NN (l : List Rt) : Prop := ∀ r ∈ l, 0 ≤ r.2
theorem look_nn {l : List Rt} (hs : SL l) (h : NN l) {p : Pf} {v : Int} (e : lookR l p = some v) : 0 ≤ v := h _ ((lookR_mem hs).1 e)
theorem Turned.at {a b now : List Rt} {j : Nat} (h : Turned a b j now) (ha : SL a) (hb : SL b) (na : NN a) (nb : NN b) {c : Ch} (hc : (mergeD a b)[j]? = some c) :
    (c.2.1 < 0 ∧ findI now c.1 = -1 ∨ 0 ≤ c.2.1 ∧ ∃ k : Nat, findI now c.1 = (k : Int) ∧ now[k]? = some (c.1, c.2.1)) ∧ c.2.1 ≠ c.2.2 ∧ Turned a b (j + 1) (doC now c) := by
  have hm := List.mem_of_getElem? hc
  have hi := (merge_is ha hb c).1 hm
  have hord := merge_sorted ha hb
  have hj := (List.getElem?_eq_some_iff.1 hc).1
  have hnot : ¬ ∃ c' ∈ (mergeD a b).take j, c'.1 = c.1 := by
    rintro ⟨c', h1, h2⟩
    obtain ⟨i, hi', e⟩ := List.getElem_of_mem h1
    have hij : i < j := by simp at hi'; omega
    rw [List.getElem_take] at e
    have := (List.pairwise_iff_getElem.1 hord) i j (by omega) hj hij
    rw [e, (List.getElem?_eq_some_iff.1 hc).2, h2] at this
    exact pf_lt_irrefl _ this
  have hv := h.v c.1
  rw [if_neg hnot] at hv
  have htk : ∀ p, (∃ c' ∈ (mergeD a b).take (j + 1), c'.1 = p) ↔ ((∃ c' ∈ (mergeD a b).take j, c'.1 = p) ∨ p = c.1) := by
    intro p
    rw [List.take_succ_eq_append_getElem hj, (List.getElem?_eq_some_iff.1 hc).2]
    constructor
    · rintro ⟨c', h1, h2⟩
      rcases List.mem_append.1 h1 with h1 | h1
      · exact .inl ⟨c', h1, h2⟩
      · rw [List.mem_singleton.1 h1] at h2; exact .inr h2.symm
    · rintro (⟨c', h1, h2⟩ | h1)
      · exact ⟨c', by simp [h1], h2⟩
      · exact ⟨c, by simp, h1.symm⟩
  refine ⟨?_, ?_, ?_⟩
  · cases e : lookR a c.1 with
    | none =>
      left
      rw [e] at hv
      refine ⟨by rw [hi.2.1, e]; decide, (find_look c.1).1 hv⟩
    | some v =>
      right
      rw [e] at hv
      have h2 : c.2.1 = v := by rw [hi.2.1, e]; rfl
      rw [h2]
      exact ⟨look_nn ha na e, (find_look c.1).2 v hv⟩
  · intro e
    rw [hi.2.1, hi.2.2] at e
    apply hi.1
    cases e1 : lookR a c.1 with
    | none =>
      cases e2 : lookR b c.1 with
      | none => rfl
      | some v => rw [e1, e2] at e; have := look_nn hb nb e2; simp at e; omega
    | some u =>
      cases e2 : lookR b c.1 with
      | none => rw [e1, e2] at e; have := look_nn ha na e1; simp at e; omega
      | some v => rw [e1, e2] at e; simp at e; rw [e]
  · unfold doC
    cases e : lookR b c.1 with
    | none =>
      have h2 : ¬ 0 ≤ c.2.2 := by rw [hi.2.2, e]; decide
      rw [if_neg h2]
      refine ⟨without_SL h.s _, by have := List.length_filter_le (fun r : Rt => decide (r.1 ≠ c.1)) now; have := h.l; unfold withoutL; omega, fun p => ?_⟩
      rw [look_without h.s]
      by_cases hp : p = c.1
      · rw [if_pos hp, if_pos ((htk p).2 (.inr hp)), hp, e]
      · rw [if_neg hp, h.v p]
        by_cases hq : ∃ c' ∈ (mergeD a b).take j, c'.1 = p
        · rw [if_pos hq, if_pos ((htk p).2 (.inl hq))]
        · rw [if_neg hq, if_neg (fun k => ((htk p).1 k).elim hq hp)]
    | some v =>
      have h2 : c.2.2 = v := by rw [hi.2.2, e]; rfl
      have h3 : 0 ≤ c.2.2 := by rw [h2]; exact look_nn hb nb e
      rw [if_pos h3]
      refine ⟨into_ord h.s _, by have := into_length now (c.1, c.2.2); have := h.l; omega, fun p => ?_⟩
      rw [look_into h.s]
      by_cases hp : p = c.1
      · rw [if_pos hp, if_pos ((htk p).2 (.inr hp)), hp, e, h2]
      · rw [if_neg hp, h.v p]
        by_cases hq : ∃ c' ∈ (mergeD a b).take j, c'.1 = p
        · rw [if_pos hq, if_pos ((htk p).2 (.inl hq))]
        · rw [if_neg hq, if_neg (fun k => ((htk p).1 k).elim hq hp)]
theorem Turned.end {a b now : List Rt} {j : Nat} (h : Turned a b j now) (ha : SL a) (hb : SL b) (hj : (mergeD a b).length ≤ j) : now = b := by
  refine look_ext h.s hb fun p => ?_
  rw [h.v p, List.take_of_length_le hj]
  by_cases hq : ∃ c ∈ mergeD a b, c.1 = p
  · rw [if_pos hq]
  · rw [if_neg hq]
    by_cases e : lookR a p = lookR b p
    · exact e
    · exact absurd ⟨(p, (lookR a p).getD (-1), (lookR b p).getD (-1)), (merge_is ha hb _).2 ⟨e, rfl, rfl⟩, rfl⟩ hq
end Go.Proofs.Ytcnecjjgnnkjkaa
