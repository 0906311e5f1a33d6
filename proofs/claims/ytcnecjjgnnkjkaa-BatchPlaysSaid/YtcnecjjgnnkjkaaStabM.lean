/-
  Sorting stably, in plain lists: elements with their numbers, merging by halves. No condition.
-/
import Derived.Test.YtcnecjjgnnkjkaaGTrie
namespace Go.Proofs.Ytcnecjjgnnkjkaa
set_option linter.unusedVariables false
set_option linter.unusedSimpArgs false

/-- A route with its number. -/
abbrev Tg := Rt × Nat
def tl (x y : Tg) : Prop := x.1.1.lt y.1.1 ∨ x.1.1 = y.1.1 ∧ x.2 < y.2
theorem tl_irrefl (x : Tg) : ¬ tl x x := fun h => by
  rcases h with h | h
  · exact pf_lt_irrefl _ h
  · omega
theorem tl_trans {x y z : Tg} (h : tl x y) (k : tl y z) : tl x z := by
  rcases h with h | ⟨h1, h2⟩ <;> rcases k with k | ⟨k1, k2⟩
  · exact .inl (pf_lt_trans h k)
  · exact .inl (k1 ▸ h)
  · exact .inl (h1 ▸ k)
  · exact .inr ⟨h1.trans k1, by omega⟩
theorem tl_asymm {x y : Tg} (h : tl x y) : ¬ tl y x := fun k => tl_irrefl _ (tl_trans h k)
def CrossT (S T : List Tg) : Prop := ∀ x ∈ S, ∀ y ∈ T, x.1.1 = y.1.1 → x.2 < y.2
theorem CrossT.le {S T : List Tg} (h : CrossT S T) {x y : Tg} (hx : x ∈ S) (hy : y ∈ T) (k : ¬ y.1.1.lt x.1.1) : tl x y := by
  by_cases e : x.1.1 = y.1.1
  · exact .inr ⟨e, h x hx y hy e⟩
  · rcases pf_lt_total e with c | c
    · exact .inl c
    · exact absurd c k
/-- What merging leaves. -/
def SymTo (A S T B L' : List Tg) : Prop := ∃ U : List Tg, L' = A ++ U ++ B ∧ U.Perm (S ++ T) ∧ U.Pairwise tl
theorem pw_split {S : List Tg} (h : S.Pairwise tl) (k : Nat) : (S.take k).Pairwise tl ∧ (S.drop k).Pairwise tl ∧ ∀ x ∈ S.take k, ∀ y ∈ S.drop k, tl x y := by
  have := List.pairwise_append.1 (by rw [List.take_append_drop]; exact h : (S.take k ++ S.drop k).Pairwise tl)
  exact this
theorem CrossT.part {S T : List Tg} (h : CrossT S T) (i j : Nat) : CrossT (S.take i) (T.take j) ∧ CrossT (S.drop i) (T.drop j) :=
  ⟨fun x hx y hy => h x (List.mem_of_mem_take hx) y (List.mem_of_mem_take hy), fun x hx y hy => h x (List.mem_of_mem_drop hx) y (List.mem_of_mem_drop hy)⟩
/-- One element into a row in order, behind the k that are ahead of it. -/
theorem sym_one {A T B : List Tg} {x : Tg} {k : Nat} (hT : T.Pairwise tl) (h1 : ∀ y ∈ T.take k, tl y x) (h2 : ∀ y ∈ T.drop k, tl x y) : SymTo A [x] T B (A ++ (T.take k ++ x :: T.drop k) ++ B) := by
  refine ⟨_, rfl, ?_, ?_⟩
  · have : (T.take k ++ x :: T.drop k).Perm (x :: (T.take k ++ T.drop k)) := List.perm_middle
    rw [List.take_append_drop] at this
    exact this
  · obtain ⟨p1, p2, p3⟩ := pw_split hT k
    rw [List.pairwise_append, List.pairwise_cons]
    refine ⟨p1, ⟨h2, p2⟩, fun a ha b hb => ?_⟩
    rcases List.mem_cons.1 hb with rfl | hb
    · exact h1 a ha
    · exact p3 a ha b hb
theorem sym_last {A S B : List Tg} {y : Tg} {k : Nat} (hS : S.Pairwise tl) (h1 : ∀ x ∈ S.take k, tl x y) (h2 : ∀ x ∈ S.drop k, tl y x) : SymTo A S [y] B (A ++ (S.take k ++ y :: S.drop k) ++ B) := by
  obtain ⟨U, e, hp, hs⟩ := sym_one (A := A) (B := B) hS h1 h2
  exact ⟨U, e, hp.trans List.perm_append_comm, hs⟩
/-- Two halves, each merged. -/
theorem sym_halves {A S T B U1 U2 : List Tg} {i j : Nat} (h1 : U1.Perm (S.take i ++ T.take j)) (h2 : U2.Perm (S.drop i ++ T.drop j)) (s1 : U1.Pairwise tl) (s2 : U2.Pairwise tl) (hS : S.Pairwise tl) (hT : T.Pairwise tl)
    (x1 : ∀ x ∈ S.take i, ∀ y ∈ T.drop j, tl x y) (x2 : ∀ y ∈ T.take j, ∀ x ∈ S.drop i, tl y x) : SymTo A S T B (A ++ U1 ++ U2 ++ B) := by
  refine ⟨U1 ++ U2, by simp, ?_, ?_⟩
  · refine (h1.append h2).trans ?_
    have e : S ++ T = S.take i ++ (S.drop i ++ (T.take j ++ T.drop j)) := by rw [List.take_append_drop, ← List.append_assoc, List.take_append_drop]
    rw [e, List.append_assoc]
    refine List.Perm.append_left _ ?_
    rw [← List.append_assoc, ← List.append_assoc]
    exact List.Perm.append_right _ List.perm_append_comm
  · rw [List.pairwise_append]
    refine ⟨s1, s2, fun a ha b hb => ?_⟩
    have ha := h1.mem_iff.1 ha
    have hb := h2.mem_iff.1 hb
    rcases List.mem_append.1 ha with ha | ha <;> rcases List.mem_append.1 hb with hb | hb
    · exact (pw_split hS i).2.2 a ha b hb
    · exact x1 a ha b hb
    · exact x2 a ha b hb
    · exact (pw_split hT j).2.2 a ha b hb
/-- Two rows that need no merging. -/
theorem sym_none {S T : List Tg} (h : S = [] ∨ T = []) (hS : S.Pairwise tl) (hT : T.Pairwise tl) : (S ++ T).Pairwise tl := by
  rcases h with rfl | rfl
  · simpa using hT
  · simpa using hS
theorem at_mid {α : Type} {A S Z : List α} {a : Nat} (ha : A.length = a) {i : Nat} (hi : i < S.length) : (A ++ S ++ Z)[a + i]? = S[i]? := by
  subst ha
  rw [List.append_assoc, List.getElem?_append_right (by omega), show A.length + i - A.length = i by omega, List.getElem?_append_left hi]
theorem tail_lt {S : List Tg} (h : S.Pairwise tl) {i j : Nat} {x y : Tg} (hx : S[i]? = some x) (hy : S[j]? = some y) (hij : i < j) : tl x y := by
  obtain ⟨h1, e1⟩ := List.getElem?_eq_some_iff.1 hx
  obtain ⟨h2, e2⟩ := List.getElem?_eq_some_iff.1 hy
  have := List.pairwise_iff_getElem.1 h i j h1 h2 hij
  rwa [e1, e2] at this
/-- All of the first i elements are ahead of z, if the last of them is. -/
theorem take_lt {S : List Tg} (h : S.Pairwise tl) {i : Nat} (hi : i ≤ S.length) {z : Tg} (hz : ∀ x, 0 < i → S[i - 1]? = some x → tl x z) : ∀ x ∈ S.take i, tl x z := by
  intro x hx
  obtain ⟨k, hk⟩ := List.getElem?_of_mem hx
  rw [List.getElem?_take] at hk
  split at hk
  · rename_i hki
    by_cases e : k = i - 1
    · subst e; exact hz x (by omega) hk
    · have := List.getElem?_eq_getElem (show i - 1 < S.length by omega)
      exact tl_trans (tail_lt h hk this (by omega)) (hz _ (by omega) this)
  · cases hk
theorem drop_lt {S : List Tg} (h : S.Pairwise tl) {i : Nat} {z : Tg} (hz : ∀ x, S[i]? = some x → tl z x) : ∀ x ∈ S.drop i, tl z x := by
  intro x hx
  obtain ⟨k, hk⟩ := List.getElem?_of_mem hx
  rw [List.getElem?_drop] at hk
  by_cases e : k = 0
  · subst e; exact hz x (by simpa using hk)
  · have hl := (List.getElem?_eq_some_iff.1 hk).1
    have := List.getElem?_eq_getElem (show i < S.length by omega)
    exact tl_trans (hz _ this) (tail_lt h this hk (by omega))
/-- What the search for the middle shows: the first i of S and j of T go ahead. -/
theorem sym_search {S T : List Tg} (hS : S.Pairwise tl) (hT : T.Pairwise tl) (hc : CrossT S T) {i j : Nat} (hi : i ≤ S.length) (hj : j ≤ T.length)
    (h1 : i = 0 ∨ j = T.length ∨ ∃ x y, S[i - 1]? = some x ∧ T[j]? = some y ∧ ¬ y.1.1.lt x.1.1)
    (h2 : i = S.length ∨ j = 0 ∨ ∃ x y, S[i]? = some x ∧ T[j - 1]? = some y ∧ y.1.1.lt x.1.1) :
    (∀ x ∈ S.take i, ∀ y ∈ T.drop j, tl x y) ∧ (∀ y ∈ T.take j, ∀ x ∈ S.drop i, tl y x) := by
  constructor
  · rcases h1 with rfl | rfl | ⟨x, y, hx, hy, hn⟩
    · intro x hx; simp at hx
    · intro x hx y hy; simp at hy
    · have hxy := hc.le (List.mem_of_getElem? hx) (List.mem_of_getElem? hy) hn
      intro x' hx'
      exact drop_lt hT fun z0 hz0 => by
        rw [hy] at hz0; injection hz0 with e; subst e
        exact take_lt hS hi (fun x2 _ h => by rw [hx] at h; injection h with h; subst h; exact hxy) x' hx'
  · rcases h2 with rfl | rfl | ⟨x, y, hx, hy, hn⟩
    · intro y hy x hx; simp at hx
    · intro y hy; simp at hy
    · intro y' hy'
      exact drop_lt hS fun z0 hz0 => by
        rw [hx] at hz0; injection hz0 with e; subst e
        exact take_lt hT hj (fun y2 _ h => by rw [hy] at h; injection h with h; subst h; exact .inl hn) y' hy'

/-! ### Blocks of one length, each in order, the numbers rising from block to block -/
def Good (k : Nat) (L : List Tg) : Prop := ∀ (p q : Nat) (x y : Tg), p < q → L[p]? = some x → L[q]? = some y → if p / k = q / k then tl x y else x.2 < y.2
def Ahead (D R : List Tg) : Prop := ∀ x ∈ D, ∀ y ∈ R, x.2 < y.2
theorem Good.nil (k : Nat) : Good k [] := fun p q x y _ h => by simp at h
theorem Good.all {k : Nat} {L : List Tg} (h : Good k L) (hl : L.length ≤ k) : L.Pairwise tl := by
  rw [List.pairwise_iff_getElem]
  intro i j hi hj hij
  have := h i j _ _ hij (List.getElem?_eq_getElem hi) (List.getElem?_eq_getElem hj)
  rwa [Nat.div_eq_of_lt (by omega), Nat.div_eq_of_lt (by omega), if_pos rfl] at this
theorem Good.of {k : Nat} {L : List Tg} (h : L.Pairwise tl) (hl : L.length ≤ k) : Good k L := by
  intro p q x y hpq hx hy
  have h1 := (List.getElem?_eq_some_iff.1 hx).1
  have h2 := (List.getElem?_eq_some_iff.1 hy).1
  rw [Nat.div_eq_of_lt (by omega), Nat.div_eq_of_lt (by omega), if_pos rfl]
  exact tail_lt h hx hy hpq
/-- Blocks, and behind them others. -/
theorem Good.app {k j : Nat} {D R : List Tg} (hk : 0 < k) (hD : Good k D) (hR : Good k R) (hd : D.length = k * j) (hA : Ahead D R) : Good k (D ++ R) := by
  intro p q x y hpq hx hy
  by_cases h1 : q < D.length
  · rw [List.getElem?_append_left (by omega)] at hx
    rw [List.getElem?_append_left h1] at hy
    exact hD p q x y hpq hx hy
  · rw [List.getElem?_append_right (by omega)] at hy
    by_cases h2 : p < D.length
    · rw [List.getElem?_append_left h2] at hx
      have e1 : p / k < j := by rw [Nat.div_lt_iff_lt_mul hk, Nat.mul_comm]; omega
      have e2 : j ≤ q / k := by rw [Nat.le_div_iff_mul_le hk, Nat.mul_comm]; omega
      rw [if_neg (by omega)]
      exact hA x (List.mem_of_getElem? hx) y (List.mem_of_getElem? hy)
    · rw [List.getElem?_append_right (by omega)] at hx
      have h3 := hR (p - D.length) (q - D.length) x y (by omega) hx hy
      have e : ∀ z, D.length ≤ z → z / k = (z - D.length) / k + j := fun z hz => by
        have h4 : z = (z - D.length) + k * j := by omega
        rw [h4, Nat.add_mul_div_left _ _ hk]
        congr 2; omega
      rw [e p (by omega), e q (by omega)]
      by_cases e3 : (p - D.length) / k = (q - D.length) / k
      · rw [if_pos e3] at h3; rw [if_pos (by omega)]; exact h3
      · rw [if_neg e3] at h3; rw [if_neg (by omega)]; exact h3
theorem Good.parts {k : Nat} {R : List Tg} (hk : 0 < k) (h : Good k R) : (R.take k).Pairwise tl ∧ Good k (R.drop k) ∧ Ahead (R.take k) (R.drop k) := by
  refine ⟨?_, ?_, ?_⟩
  · refine Good.all (k := k) (fun p q x y hpq hx hy => ?_) (by rw [List.length_take]; omega)
    rw [List.getElem?_take] at hx hy
    split at hx
    · split at hy
      · exact h p q x y hpq hx hy
      · cases hy
    · cases hx
  · intro p q x y hpq hx hy
    rw [List.getElem?_drop] at hx hy
    have h1 := h (k + p) (k + q) x y (by omega) hx hy
    rw [Nat.add_div_left _ hk, Nat.add_div_left _ hk] at h1
    by_cases e : p / k = q / k
    · rw [if_pos (by omega)] at h1; rw [if_pos e]; exact h1
    · rw [if_neg (by omega)] at h1; rw [if_neg e]; exact h1
  · intro x hx y hy
    obtain ⟨p, hp⟩ := List.getElem?_of_mem hx
    obtain ⟨q, hq⟩ := List.getElem?_of_mem hy
    rw [List.getElem?_take] at hp
    split at hp
    · rw [List.getElem?_drop] at hq
      have h1 := h p (k + q) x y (by omega) hp hq
      have e1 : p / k = 0 := Nat.div_eq_of_lt (by omega)
      have e2 : (k + q) / k = q / k + 1 := Nat.add_div_left _ hk
      rw [e1, e2, if_neg (Nat.succ_ne_zero _).symm] at h1
      exact h1
    · cases hp
theorem Ahead.cross {S T : List Tg} (h : Ahead S T) : CrossT S T := fun x hx y hy _ => h x hx y hy
theorem Ahead.perm {D D' R R' : List Tg} (h : Ahead D R) (hd : D'.Perm D) (hr : R'.Perm R) : Ahead D' R' := fun x hx y hy => h x (hd.mem_iff.1 hx) y (hr.mem_iff.1 hy)

end Go.Proofs.Ytcnecjjgnnkjkaa
