/-
  What shares are together, and who has how much: plain lists. No condition.
-/
import Derived.Test.YtcnecjjgnnkjkaaWeighC
namespace Go.Proofs.Ytcnecjjgnnkjkaa
set_option linter.unusedVariables false
set_option linter.unusedSimpArgs false

/-- How many weigh. -/
def cntP (ns : List Nat) : Nat := (ns.map (fun n => if 0 < n then 1 else 0)).sum
theorem more_sum : ∀ (r : Nat) (ns os : List Nat), ns.length = os.length → (more r ns os).sum = os.sum + min r (cntP ns)
  | r, [], [], _ => by simp [more, cntP]
  | r, n :: ns, o :: os, h => by
    have h' : ns.length = os.length := by simpa using h
    unfold more cntP
    rw [List.map_cons, List.sum_cons]
    by_cases c : 0 < r ∧ 0 < n
    · rw [if_pos c, if_pos c.2, List.sum_cons, more_sum (r - 1) ns os h', List.sum_cons]
      unfold cntP; omega
    · rw [if_neg c, List.sum_cons, more_sum r ns os h', List.sum_cons]
      unfold cntP
      split <;> omega
  | _, [], _ :: _, h => by simp at h
  | _, _ :: _, [], h => by simp at h
theorem part_up {left all n : Nat} (ha : 0 < all) : n * left ≤ (part left all n + (if 0 < n then 1 else 0)) * all := by
  unfold part
  rw [if_pos ha]
  by_cases hn : 0 < n
  · rw [if_pos hn]
    have := Nat.lt_div_mul_add ha (a := n * left)
    rw [Nat.add_mul, Nat.one_mul]; omega
  · rw [show n = 0 by omega]; simp
theorem parts_up {left all : Nat} (ha : 0 < all) (ns : List Nat) : ns.sum * left ≤ (partsS left all ns + cntP ns) * all := by
  induction ns with
  | nil => simp
  | cons n ns ih =>
    unfold partsS cntP at ih ⊢
    rw [List.map_cons, List.sum_cons, List.map_cons, List.sum_cons, List.sum_cons, Nat.add_mul]
    have := part_up (left := left) (n := n) ha
    have e : (part left all n + (ns.map (part left all)).sum + ((if 0 < n then 1 else 0) + (ns.map (fun n => if 0 < n then 1 else 0)).sum)) * all = (part left all n + (if 0 < n then 1 else 0)) * all + ((ns.map (part left all)).sum + (ns.map (fun n => if 0 < n then 1 else 0)).sum) * all := by
      rw [← Nat.add_mul]; congr 1; omega
    rw [e]
    omega
theorem rest_le {left : Nat} {ns : List Nat} (ha : 0 < ns.sum) : left - partsS left ns.sum ns ≤ cntP ns := by
  have h := parts_up (left := left) ha ns
  rw [Nat.mul_comm ns.sum left] at h
  have := Nat.le_of_mul_le_mul_right h ha
  omega
theorem out_sum (least left all : Nat) (ns : List Nat) : (ns.map (fun n => least + part left all n)).sum = least * ns.length + partsS left all ns := by
  unfold partsS
  induction ns with
  | nil => simp
  | cons n ns ih => rw [List.map_cons, List.sum_cons, ih, List.length_cons, Nat.mul_succ, List.map_cons, List.sum_cons]; omega
theorem headMore_sum {r : Nat} {os : List Nat} (h : os ≠ []) : (headMore r os).sum = os.sum + r := by
  cases os with
  | nil => exact absurd rfl h
  | cons o os => simp only [headMore, List.sum_cons]; omega
/-- Shares together are the total. -/
theorem share_sum {total least : Nat} {ns : List Nat} (h0 : ns ≠ []) (h : least * ns.length ≤ total) : (shareL total least ns).sum = total := by
  unfold shareL
  simp only
  have hp := parts_le (total - least * ns.length) ns
  split
  · rw [headMore_sum (by simpa using h0), out_sum]; omega
  · rw [more_sum _ _ _ (by simp), out_sum, Nat.min_eq_left (rest_le (by omega))]; omega
theorem more_get : ∀ (r : Nat) (ns os : List Nat) (j n o : Nat), ns[j]? = some n → os[j]? = some o → (more r ns os)[j]? = some (if 0 < restA r (ns.take j) ∧ 0 < n then o + 1 else o)
  | r, m :: ns, p :: os, 0, n, o, h1, h2 => by
    simp at h1 h2
    subst h1 h2
    unfold more
    simp only [List.take_zero, restA]
    split <;> rfl
  | r, m :: ns, p :: os, j + 1, n, o, h1, h2 => by
    simp at h1 h2
    unfold more
    simp only [List.take_succ_cons, restA]
    split
    · exact more_get _ _ _ _ _ _ h1 h2
    · exact more_get _ _ _ _ _ _ h1 h2
  | _, [], _, _, _, _, h, _ => by simp at h
  | _, _ :: _, [], _, _, _, _, h => by simp at h
/-- What one has. -/
theorem share_get {total least : Nat} {ns : List Nat} (ha : 0 < ns.sum) {j n : Nat} (hn : ns[j]? = some n) :
    (shareL total least ns)[j]? = some (least + part (total - least * ns.length) ns.sum n + (if 0 < restA (total - least * ns.length - partsS (total - least * ns.length) ns.sum ns) (ns.take j) ∧ 0 < n then 1 else 0)) := by
  unfold shareL
  simp only
  rw [if_neg (by omega), more_get _ _ _ _ n (least + part (total - least * ns.length) ns.sum n) hn (by simp [hn])]
  split <;> rfl
theorem part_mono {left all n m : Nat} (h : n ≤ m) : part left all n ≤ part left all m := by
  unfold part
  split
  · exact Nat.div_le_div_right (Nat.mul_le_mul_right _ h)
  · exact Nat.le_refl _
/-- Who weighs more has no less, but for one; who weighs nothing has the least. -/
theorem share_order {total least : Nat} {ns : List Nat} (ha : 0 < ns.sum) {i k n m a b : Nat} (hi : ns[i]? = some n) (hk : ns[k]? = some m) (hA : (shareL total least ns)[i]? = some a) (hB : (shareL total least ns)[k]? = some b) :
    (m < n → b ≤ a + 1) ∧ (n = 0 → a = least) := by
  rw [share_get ha hi] at hA
  rw [share_get ha hk] at hB
  injection hA with hA
  injection hB with hB
  refine ⟨fun h => ?_, fun h => ?_⟩
  · have := part_mono (left := total - least * ns.length) (all := ns.sum) (Nat.le_of_lt h)
    have h1 : (if 0 < restA (total - least * ns.length - partsS (total - least * ns.length) ns.sum ns) (ns.take k) ∧ 0 < m then 1 else 0) ≤ 1 := by split <;> omega
    omega
  · subst h
    rw [if_neg (by omega)] at hA
    have : part (total - least * ns.length) ns.sum 0 = 0 := by unfold part; split <;> simp
    omega
theorem share_least {total least : Nat} {ns : List Nat} {j a : Nat} (hA : (shareL total least ns)[j]? = some a) : least ≤ a := by
  have hj : j < ns.length := by
    have := (List.getElem?_eq_some_iff.1 hA).1
    rwa [share_len] at this
  have hn := List.getElem?_eq_getElem hj
  by_cases ha : 0 < ns.sum
  · rw [share_get ha hn] at hA
    injection hA with hA
    omega
  · unfold shareL at hA
    simp only at hA
    rw [if_pos (by omega)] at hA
    have key : ∀ (r : Nat) (os : List Nat) (j a : Nat), (∀ o ∈ os, least ≤ o) → (headMore r os)[j]? = some a → least ≤ a := by
      intro r os j a ho h
      cases os with
      | nil => simp [headMore] at h
      | cons o os =>
        cases j with
        | zero => simp [headMore] at h; have := ho o (by simp); omega
        | succ j => simp [headMore] at h; exact ho a (by simp [List.mem_of_getElem? h])
    exact key _ _ _ _ (fun o ho => by obtain ⟨n, _, rfl⟩ := List.mem_map.1 ho; omega) hA
theorem restA_drop {r j n : Nat} {ns : List Nat} (hn : ns[j]? = some n) : restA r (ns.take (j + 1)) ≤ restA r (ns.take j) := by
  rw [restA_take hn]
  split <;> omega
/-- Who weighs as much as the one ahead has as much, or one less. -/
theorem share_next {total least : Nat} {ns : List Nat} (ha : 0 < ns.sum) {j n a b : Nat} (hj : ns[j]? = some n) (hk : ns[j + 1]? = some n) (hA : (shareL total least ns)[j]? = some a) (hB : (shareL total least ns)[j + 1]? = some b) : b = a ∨ b + 1 = a := by
  rw [share_get ha hj] at hA
  rw [share_get ha hk] at hB
  injection hA with hA
  injection hB with hB
  have hd := restA_drop (r := total - least * ns.length - partsS (total - least * ns.length) ns.sum ns) hj
  generalize restA _ (ns.take (j + 1)) = x at hd hB
  generalize restA _ (ns.take j) = y at hd hA
  by_cases h1 : 0 < x ∧ 0 < n
  · rw [if_pos h1] at hB
    rw [if_pos ⟨by omega, h1.2⟩] at hA
    omega
  · rw [if_neg h1] at hB
    by_cases h2 : 0 < y ∧ 0 < n
    · rw [if_pos h2] at hA; omega
    · rw [if_neg h2] at hA; omega
theorem more_twice : ∀ (r : Nat) (ns os : List Nat), more r (ns.map (2 * ·)) os = more r ns os
  | _, [], _ => by simp [more]
  | _, _ :: _, [] => by simp [more]
  | r, n :: ns, o :: os => by
    rw [List.map_cons]
    unfold more
    by_cases h : 0 < r ∧ 0 < n
    · rw [if_pos h, if_pos ⟨h.1, by omega⟩, more_twice]
    · rw [if_neg h, if_neg (fun k => h ⟨k.1, by omega⟩), more_twice]
theorem sum_twice (ns : List Nat) : (ns.map (2 * ·)).sum = 2 * ns.sum := by
  induction ns with
  | nil => rfl
  | cons n ns ih => rw [List.map_cons, List.sum_cons, ih, List.sum_cons]; omega
theorem part_twice (left all n : Nat) : part left (2 * all) (2 * n) = part left all n := by
  unfold part
  by_cases h : 0 < all
  · rw [if_pos h, if_pos (by omega), Nat.mul_assoc, Nat.mul_div_mul_left _ _ (by decide)]
  · rw [if_neg h, if_neg (by omega)]
/-- Weights twice as great share out alike. -/
theorem share_twice (total least : Nat) (ns : List Nat) : shareL total least (ns.map (2 * ·)) = shareL total least ns := by
  unfold shareL partsS
  simp only [List.map_map, List.length_map, sum_twice, more_twice]
  have e1 : (fun n => least + part (total - least * ns.length) (2 * ns.sum) n) ∘ (2 * ·) = fun n => least + part (total - least * ns.length) ns.sum n := by
    funext n; simp [part_twice]
  have e2 : part (total - least * ns.length) (2 * ns.sum) ∘ (2 * ·) = part (total - least * ns.length) ns.sum := by
    funext n; simp [part_twice]
  rw [e1, e2]
  by_cases h : ns.sum = 0
  · rw [if_pos h, if_pos (by omega)]
  · rw [if_neg h, if_neg (by omega)]
end Go.Proofs.Ytcnecjjgnnkjkaa
