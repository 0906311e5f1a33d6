/-
  Counters that count keys: what adding and removing makes of them, in plain lists. No condition.
-/
import Derived.Test.YtpjjijhojcfmnaaGreatNib
import Derived.Test.YtpjjijhojcfmnaaGreatMir
import Derived.Test.YtpjjijhojcfmnaaGreatGBase
namespace Go.Proofs.YtpjjijhojcfmnaaGreat
set_option linter.unusedVariables false
set_option linter.unusedSimpArgs false

def onB (c : List Nat) : List Bool := c.map fun x => decide (0 < x)
theorem onB_length (c : List Nat) : (onB c).length = c.length := by simp [onB]
theorem onB_get (c : List Nat) (k : Nat) : (onB c).getD k false = decide (0 < c.getD k 0) := by
  unfold onB
  rw [List.getD_eq_getElem?_getD, List.getElem?_map, List.getD_eq_getElem?_getD]
  cases c[k]? <;> simp
theorem onB_rep (n : Nat) : onB (List.replicate n 0) = List.replicate n false := by simp [onB]
theorem onB_set (c : List Nat) (k v : Nat) : onB (c.set k v) = (onB c).set k (decide (0 < v)) := by simp [onB, List.map_set]
theorem set_self {α : Type} (l : List α) (k : Nat) (d : α) (h : k < l.length) : l.set k (l.getD k d) = l := by
  apply List.ext_getElem?
  intro j
  rw [List.getElem?_set]
  by_cases e : k = j
  · subst e; simp [h]
  · simp [e]
def upN (c : List Nat) (i : Nat) : List Nat := upC c (i : Int)
def downN (c : List Nat) (i : Nat) : List Nat := downC c (i : Int)
theorem upN_len (c : List Nat) (i : Nat) : (upN c i).length = c.length := upC_length c i
theorem downN_len (c : List Nat) (i : Nat) : (downN c i).length = c.length := downC_length c i
theorem upN_eq (c : List Nat) (i : Nat) : upN c i = if i < c.length ∧ c.getD i 0 < 15 then c.set i (c.getD i 0 + 1) else c := by
  unfold upN upC
  rw [at0_nat]
  by_cases h : i < c.length ∧ c.getD i 0 < 15
  · rw [if_pos h, if_pos ⟨by omega, by omega, h.2⟩]; rfl
  · rw [if_neg h, if_neg (fun k => h ⟨by omega, k.2.2⟩)]
theorem downN_eq (c : List Nat) (i : Nat) : downN c i = if i < c.length ∧ 0 < c.getD i 0 ∧ c.getD i 0 < 15 then c.set i (c.getD i 0 - 1) else c := by
  unfold downN downC
  rw [at0_nat]
  by_cases h : i < c.length ∧ 0 < c.getD i 0 ∧ c.getD i 0 < 15
  · rw [if_pos h, if_pos ⟨by omega, by omega, h.2.1, h.2.2⟩]; rfl
  · rw [if_neg h, if_neg (fun k => h ⟨by omega, k.2.2.1, k.2.2.2⟩)]
theorem on_up (c : List Nat) (i : Nat) (hi : i < c.length) : setC (onB c) (i : Int) true = onB (upN c i) := by
  rw [setC_nat, upN_eq]
  by_cases h : c.getD i 0 < 15
  · rw [if_pos ⟨hi, h⟩, onB_set]; simp
  · rw [if_neg (fun k => h k.2)]
    have := set_self (onB c) i false (by rw [onB_length]; exact hi)
    rw [onB_get] at this
    rw [decide_eq_true (show 0 < c.getD i 0 by omega)] at this
    exact this
theorem on_down (c : List Nat) (i : Nat) (hi : i < c.length) : setC (onB c) (i : Int) (decide (0 < (downN c i).getD i 0)) = onB (downN c i) := by
  rw [setC_nat, downN_eq]
  by_cases h : 0 < c.getD i 0 ∧ c.getD i 0 < 15
  · rw [if_pos ⟨hi, h⟩, onB_set]
    congr 2
    rw [List.getD_eq_getElem?_getD, List.getElem?_set_self hi]; rfl
  · rw [if_neg (fun k => h k.2)]
    have := set_self (onB c) i false (by rw [onB_length]; exact hi)
    rw [onB_get] at this
    exact this
/-- All places of a key, one behind the other. -/
def addC (L : List Nat) (c : List Nat) : List Nat := L.foldl upN c
def remC (L : List Nat) (c : List Nat) : List Nat := L.foldl downN c
def mayB (L : List Nat) (c : List Nat) : Bool := L.all fun i => decide (0 < c.getD i 0)
theorem addC_len : ∀ (L c : List Nat), (addC L c).length = c.length
  | [], _ => rfl
  | i :: L, c => by show (addC L (upN c i)).length = _; rw [addC_len L, upN_len]
theorem remC_len : ∀ (L c : List Nat), (remC L c).length = c.length
  | [], _ => rfl
  | i :: L, c => by show (remC L (downN c i)).length = _; rw [remC_len L, downN_len]
theorem addC_snoc {L : List Nat} {k i : Nat} (h : L[k]? = some i) (c : List Nat) : addC (L.take (k + 1)) c = upN (addC (L.take k) c) i := by
  obtain ⟨hk, rfl⟩ := List.getElem?_eq_some_iff.1 h
  unfold addC
  rw [List.take_succ_eq_append_getElem hk, List.foldl_append]; rfl
theorem remC_snoc {L : List Nat} {k i : Nat} (h : L[k]? = some i) (c : List Nat) : remC (L.take (k + 1)) c = downN (remC (L.take k) c) i := by
  obtain ⟨hk, rfl⟩ := List.getElem?_eq_some_iff.1 h
  unfold remC
  rw [List.take_succ_eq_append_getElem hk, List.foldl_append]; rfl
theorem mayB_all {L c : List Nat} (h : ∀ (j : Nat) (i : Nat), L[j]? = some i → 0 < c.getD i 0) : mayB L c = true := by
  unfold mayB
  rw [List.all_eq_true]
  intro i hi
  obtain ⟨j, hj⟩ := List.getElem?_of_mem hi
  simpa using h j i hj
theorem mayB_no {L c : List Nat} {j i : Nat} (h : L[j]? = some i) (h0 : ¬ 0 < c.getD i 0) : mayB L c = false := by
  unfold mayB
  rw [List.all_eq_false]
  exact ⟨i, List.mem_of_getElem? h, by simpa using h0⟩
theorem placesN_lt {s : Nat} {p : Pf} {k : Int} {m : Nat} (hm : 0 < m) : ∀ i ∈ placesN s p k (m : Int), i < m := by
  intro i hi
  unfold placesN at hi
  rw [if_neg (by omega)] at hi
  unfold placesOf at hi
  obtain ⟨j, _, rfl⟩ := List.mem_map.1 hi
  unfold redI
  rw [if_neg (by omega)]
  exact redN_lt (stepN_lt _ _ _) (by simpa using hm)
theorem placesN_le (s : Nat) (p : Pf) (k m : Int) : (placesN s p k m).length ≤ 16 := by
  unfold placesN
  split
  · simp
  · rw [placesOf_length]; unfold capK; omega
/-- Every counter is at most 15. -/
def Le15 (c : List Nat) : Prop := ∀ i, c.getD i 0 ≤ 15
theorem getD_set_n (c : List Nat) (k v i : Nat) : (c.set k v).getD i 0 = if k = i ∧ k < c.length then v else c.getD i 0 := by
  rw [List.getD_eq_getElem?_getD, List.getElem?_set, List.getD_eq_getElem?_getD]
  by_cases h : k = i
  · subst h
    by_cases hk : k < c.length
    · simp [hk]
    · simp [hk, List.getElem?_eq_none (Nat.le_of_not_lt hk)]
  · simp [h]
theorem upN_get (c : List Nat) (i j : Nat) : (upN c i).getD j 0 = if i = j ∧ i < c.length ∧ c.getD i 0 < 15 then c.getD j 0 + 1 else c.getD j 0 := by
  rw [upN_eq]
  by_cases h : i < c.length ∧ c.getD i 0 < 15
  · rw [if_pos h, getD_set_n]
    by_cases e : i = j
    · subst e; rw [if_pos ⟨rfl, h.1⟩, if_pos ⟨rfl, h⟩]
    · rw [if_neg (fun k => e k.1), if_neg (fun k => e k.1)]
  · rw [if_neg h, if_neg (fun k => h k.2)]
theorem downN_get (c : List Nat) (i j : Nat) : (downN c i).getD j 0 = if i = j ∧ i < c.length ∧ 0 < c.getD i 0 ∧ c.getD i 0 < 15 then c.getD j 0 - 1 else c.getD j 0 := by
  rw [downN_eq]
  by_cases h : i < c.length ∧ 0 < c.getD i 0 ∧ c.getD i 0 < 15
  · rw [if_pos h, getD_set_n]
    by_cases e : i = j
    · subst e; rw [if_pos ⟨rfl, h.1⟩, if_pos ⟨rfl, h⟩]
    · rw [if_neg (fun k => e k.1), if_neg (fun k => e k.1)]
  · rw [if_neg h, if_neg (fun k => h k.2)]
theorem Le15.up {c : List Nat} (h : Le15 c) (i : Nat) : Le15 (upN c i) := by
  intro j
  rw [upN_get]
  have := h j
  split
  · rename_i k; have := k.2.2; obtain rfl := k.1; omega
  · exact this
theorem Le15.down {c : List Nat} (h : Le15 c) (i : Nat) : Le15 (downN c i) := by
  intro j
  rw [downN_get]
  have := h j
  split <;> omega
theorem Le15.add : ∀ (L : List Nat) {c : List Nat}, Le15 c → Le15 (addC L c)
  | [], _, h => h
  | i :: L, c, h => Le15.add L (h.up i)
theorem Le15.rem : ∀ (L : List Nat) {c : List Nat}, Le15 c → Le15 (remC L c)
  | [], _, h => h
  | i :: L, c, h => Le15.rem L (h.down i)
theorem Le15.zero (n : Nat) : Le15 (List.replicate n 0) := by
  intro i
  rw [List.getD_eq_getElem?_getD, List.getElem?_replicate]
  split <;> simp

theorem count_c (i j : Nat) (L : List Nat) : (i :: L).count j = L.count j + if i = j then 1 else 0 := by
  rw [List.count_cons]
  by_cases h : i = j
  · subst h; simp
  · simp [h]
theorem addC_get (j : Nat) : ∀ (L c : List Nat), Le15 c → j < c.length → (addC L c).getD j 0 = min 15 (c.getD j 0 + L.count j)
  | [], c, h, _ => by
    have := h j
    show c.getD j 0 = min 15 (c.getD j 0 + 0)
    omega
  | i :: L, c, h, hj => by
    show (addC L (upN c i)).getD j 0 = _
    have h1 := addC_get j L (upN c i) (h.up i) (by rw [upN_len]; exact hj)
    have h2 := upN_get c i j
    have h3 := h j
    have h4 := count_c i j L
    rw [h1, h4]
    by_cases e : i = j
    · subst e
      rw [if_pos rfl]
      by_cases k : c.getD i 0 < 15
      · rw [if_pos ⟨rfl, hj, k⟩] at h2; omega
      · rw [if_neg (fun q => k q.2.2)] at h2; omega
    · rw [if_neg e]
      rw [if_neg (fun q => e q.1)] at h2; omega
theorem remC_get (j : Nat) : ∀ (L c : List Nat), Le15 c → j < c.length → (remC L c).getD j 0 = if c.getD j 0 = 15 then 15 else c.getD j 0 - L.count j
  | [], c, h, _ => by
    show c.getD j 0 = if c.getD j 0 = 15 then 15 else c.getD j 0 - 0
    split <;> omega
  | i :: L, c, h, hj => by
    show (remC L (downN c i)).getD j 0 = _
    have h1 := remC_get j L (downN c i) (h.down i) (by rw [downN_len]; exact hj)
    have h2 := downN_get c i j
    have h3 := h j
    have h4 := count_c i j L
    rw [h1, h4]
    generalize (downN c i).getD j 0 = x at h2 ⊢
    by_cases e : i = j
    · subst e
      rw [if_pos rfl]
      by_cases k : 0 < c.getD i 0 ∧ c.getD i 0 < 15
      · rw [if_pos ⟨rfl, hj, k⟩] at h2
        rw [if_neg (by omega), if_neg (by omega)]; omega
      · rw [if_neg (fun q => k q.2.2)] at h2
        rw [h2]
        split <;> omega
    · rw [if_neg e]
      rw [if_neg (fun q => e q.1)] at h2
      rw [h2]
      split <;> omega

end Go.Proofs.YtpjjijhojcfmnaaGreat
