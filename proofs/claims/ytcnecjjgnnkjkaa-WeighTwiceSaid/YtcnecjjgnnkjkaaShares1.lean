/-
  Plain words for the loops of sharing out: the shares so far, what is left. No condition.
-/
import Derived.Test.YtcnecjjgnnkjkaaShares0
namespace Go.Proofs.Ytcnecjjgnnkjkaa
open Go.RowKit
set_option linter.unusedVariables false
set_option linter.unusedSimpArgs false

theorem intsV_rep (n : Nat) : intsV (List.replicate n 0) = List.replicate n (.int .i64 0) := by simp [intsV]
theorem intsV_append (a b : List Nat) : intsV (a ++ b) = intsV a ++ intsV b := by simp [intsV]
theorem intsV_set (a : List Nat) (j v : Nat) : (intsV a).set j (.int .i64 (v : Int)) = intsV (a.set j v) := by simp [intsV, List.map_set]
theorem intsV_get {a : List Nat} {j v : Nat} (h : a[j]? = some v) : (intsV a)[j]? = some (.int .i64 (v : Int)) := by simp [intsV, h]
theorem partsS_snoc {left all n j : Nat} {ns : List Nat} (h : ns[j]? = some n) : partsS left all (ns.take (j + 1)) = partsS left all (ns.take j) + part left all n := by
  obtain ⟨hj, e⟩ := List.getElem?_eq_some_iff.1 h
  unfold partsS
  rw [List.take_succ_eq_append_getElem hj, e, List.map_append, List.sum_append]
  simp
theorem partsS_le {left all j : Nat} {ns : List Nat} : partsS left all (ns.take j) ≤ partsS left all ns := by
  have h : partsS left all ns = partsS left all (ns.take j) + partsS left all (ns.drop j) := by
    unfold partsS
    rw [← List.sum_append, ← List.map_append, List.take_append_drop]
  omega
/-- The shares behind j of N weights. -/
def outJ (least left all : Nat) (ns : List Nat) (j N : Nat) : List Nat := ((ns.take j).map (fun n => least + part left all n)) ++ List.replicate (N - j) 0
theorem outJ_zero (least left all : Nat) (ns : List Nat) (N : Nat) : outJ least left all ns 0 N = List.replicate N 0 := by simp [outJ]
theorem outJ_all {least left all N : Nat} {ns : List Nat} (h : ns.length = N) : outJ least left all ns N N = ns.map (fun n => least + part left all n) := by simp [outJ, ← h]
theorem outJ_get {least left all j N : Nat} {ns : List Nat} (hj : j < N) (hN : ns.length = N) : (outJ least left all ns j N)[j]? = some 0 := by
  unfold outJ
  have hl : ((ns.take j).map (fun n => least + part left all n)).length = j := by simp; omega
  rw [List.getElem?_append_right (by omega), hl, Nat.sub_self, List.getElem?_replicate, if_pos (by omega)]
theorem outJ_len {least left all j N : Nat} {ns : List Nat} (hj : j ≤ N) (hN : ns.length = N) : (outJ least left all ns j N).length = N := by
  unfold outJ; simp; omega
theorem outJ_snoc {least left all n j N : Nat} {ns : List Nat} (h : ns[j]? = some n) (hN : ns.length = N) : (outJ least left all ns j N).set j (least + part left all n) = outJ least left all ns (j + 1) N := by
  obtain ⟨hj, e⟩ := List.getElem?_eq_some_iff.1 h
  unfold outJ
  have hl : ((ns.take j).map (fun n => least + part left all n)).length = j := by simp; omega
  rw [List.set_append_right _ _ (by omega), hl, Nat.sub_self, List.take_succ_eq_append_getElem hj, e, show N - j = (N - (j + 1)) + 1 by omega, List.replicate_succ, List.set_cons_zero, List.map_append, List.append_assoc]
  rfl
/-- What the rest is behind some weights. -/
def restA : Nat → List Nat → Nat
  | r, [] => r
  | r, n :: ns => if 0 < r ∧ 0 < n then restA (r - 1) ns else restA r ns
theorem restA_le : ∀ (r : Nat) (ns : List Nat), restA r ns ≤ r
  | r, [] => Nat.le_refl _
  | r, n :: ns => by
    unfold restA
    split
    · exact Nat.le_trans (restA_le _ _) (by omega)
    · exact restA_le _ _
theorem restA_snoc : ∀ (r : Nat) (ns : List Nat) (n : Nat), restA r (ns ++ [n]) = if 0 < restA r ns ∧ 0 < n then restA r ns - 1 else restA r ns
  | r, [], n => by
    simp only [List.nil_append, restA]
    by_cases h : 0 < r ∧ 0 < n
    · simp only [h, and_self, if_true]
    · simp only [h, if_false]
  | r, m :: ns, n => by
    rw [List.cons_append]
    unfold restA
    split
    · exact restA_snoc _ _ _
    · exact restA_snoc _ _ _
theorem more_snoc : ∀ (r : Nat) (ns os : List Nat) (n o : Nat), ns.length = os.length → more r (ns ++ [n]) (os ++ [o]) = more r ns os ++ [if 0 < restA r ns ∧ 0 < n then o + 1 else o]
  | r, [], [], n, o, _ => by
    simp only [List.nil_append, more, restA]
    by_cases h : 0 < r ∧ 0 < n
    · simp only [h, and_self, if_true]
    · simp only [h, if_false]
  | r, m :: ns, p :: os, n, o, h => by
    have h' : ns.length = os.length := by simpa using h
    simp only [List.cons_append, more, restA]
    split
    · rw [more_snoc _ _ _ _ _ h']; rfl
    · rw [more_snoc _ _ _ _ _ h']; rfl
  | _, [], _ :: _, _, _, h => by simp at h
  | _, _ :: _, [], _, _, h => by simp at h
/-- The shares behind j weights of the last round. -/
def moreJ (r : Nat) (ns os : List Nat) (j : Nat) : List Nat := more r (ns.take j) (os.take j) ++ os.drop j
theorem moreJ_zero (r : Nat) (ns os : List Nat) : moreJ r ns os 0 = os := by simp [moreJ, more]
theorem moreJ_all {r : Nat} {ns os : List Nat} (h : ns.length = os.length) : moreJ r ns os ns.length = more r ns os := by
  unfold moreJ; rw [h, List.take_length, List.drop_length, ← h, List.take_length, List.append_nil]
theorem moreJ_len {r j : Nat} {ns os : List Nat} (h : ns.length = os.length) (hj : j ≤ os.length) : (moreJ r ns os j).length = os.length := by
  unfold moreJ; rw [List.length_append, more_len _ _ _ (by simp; omega)]; simp; omega
theorem moreJ_get {r j : Nat} {ns os : List Nat} {o : Nat} (h : ns.length = os.length) (ho : os[j]? = some o) : (moreJ r ns os j)[j]? = some o := by
  obtain ⟨hj, e⟩ := List.getElem?_eq_some_iff.1 ho
  unfold moreJ
  have hl : (more r (ns.take j) (os.take j)).length = j := by rw [more_len _ _ _ (by simp; omega)]; simp; omega
  rw [List.getElem?_append_right (by omega), hl, Nat.sub_self, List.getElem?_drop]; exact ho
theorem moreJ_snoc {r j n o : Nat} {ns os : List Nat} (h : ns.length = os.length) (hn : ns[j]? = some n) (ho : os[j]? = some o) :
    moreJ r ns os (j + 1) = (moreJ r ns os j).set j (if 0 < restA r (ns.take j) ∧ 0 < n then o + 1 else o) := by
  obtain ⟨hj, e⟩ := List.getElem?_eq_some_iff.1 ho
  obtain ⟨hj2, e2⟩ := List.getElem?_eq_some_iff.1 hn
  unfold moreJ
  have hl : (more r (ns.take j) (os.take j)).length = j := by rw [more_len _ _ _ (by simp; omega)]; simp; omega
  rw [List.set_append_right _ _ (by omega), hl, Nat.sub_self, List.drop_eq_getElem_cons hj, List.set_cons_zero, List.take_succ_eq_append_getElem hj, List.take_succ_eq_append_getElem hj2, e, e2, more_snoc _ _ _ _ _ (by simp; omega), List.append_assoc]
  rfl
theorem restA_take {r j n : Nat} {ns : List Nat} (hn : ns[j]? = some n) : restA r (ns.take (j + 1)) = if 0 < restA r (ns.take j) ∧ 0 < n then restA r (ns.take j) - 1 else restA r (ns.take j) := by
  obtain ⟨hj2, e2⟩ := List.getElem?_eq_some_iff.1 hn
  rw [List.take_succ_eq_append_getElem hj2, e2, restA_snoc]
theorem set_same {α : Type} {l : List α} {j : Nat} {v : α} (h : l[j]? = some v) : l.set j v = l := by
  obtain ⟨hj, e⟩ := List.getElem?_eq_some_iff.1 h
  apply List.ext_getElem (by simp)
  intro i h1 h2
  rw [List.getElem_set]
  split
  · subst_vars; rfl
  · rfl
theorem own_of {w : World} {base g n : Nat} {e : TypeId} {xs : List Value} (h : Blk w g e xs) (hb : base ≤ g) (hl : xs.length = n) (hm : n ≤ maxLen) : Owns w base e 1 (.slice (some ⟨g, 0, none⟩) n n) n xs :=
  ⟨by simp [hl], .inr ⟨g, n, xs.toArray, rfl, hb, h, Nat.le_refl _, hm, by simp [hl], by simp [← hl]⟩⟩
theorem w64 {z : Int} (h0 : -4611686018427387904 ≤ z) (h1 : z ≤ 4611686018427387904) : wrap64 z = z := by unfold wrap64; omega
theorem w64n {a : Nat} (h : a ≤ 2147483648) : wrap64 (a : Int) = a := w64 (by omega) (by omega)
theorem w64add {a b : Nat} (h1 : a ≤ 2147483648) (h2 : b ≤ 2147483648) : wrap64 ((a : Int) + (b : Int)) = ((a + b : Nat) : Int) := by rw [w64 (by omega) (by omega)]; omega
theorem w64sub {a b c : Nat} (h1 : a ≤ 2147483648) (h2 : b + c = a) : wrap64 ((a : Int) - (b : Int)) = (c : Int) := by rw [w64 (by omega) (by omega)]; omega
theorem rest_step {left S q : Nat} (h : S + q ≤ left) (hl : left ≤ 2147483648) : wrap64 (((left - S : Nat) : Int) - (q : Int)) = ((left - (S + q) : Nat) : Int) := w64sub (by omega) (by omega)
theorem w64succ {a : Nat} (h : a ≤ 2147483647) : wrap64 ((a : Int) + 1) = ((a + 1 : Nat) : Int) := by rw [w64 (by omega) (by omega)]; omega
/-- A weight's word against nought. -/
theorem wd_gt {n : Nat} (h : n ≤ 2 ^ 30) : (Ieee.double.order (wd n) 0 == some .gt) = decide (0 < n) := by
  by_cases h0 : n = 0
  · subst h0; decide +kernel
  · obtain ⟨a, b, c⟩ := shl_range h0 (by omega)
    unfold Ieee.Format.order
    rw [read_wd h0 (by omega), read_0]
    have hp : 0 < n := by omega
    rw [decide_eq_true hp, beq_iff_eq]
    simp only [Ieee.Datum.order, Option.some.injEq, fcmp_gt, signed_f, Nat.zero_mul]
    have : 0 < n <<< (52 - n.log2) * 2 ^ ((n.log2 : Int) - 52 - min ((n.log2 : Int) - 52) (-1074)).toNat := Nat.mul_pos (by omega) (Nat.two_pow_pos _)
    generalize n <<< (52 - n.log2) * 2 ^ ((n.log2 : Int) - 52 - min ((n.log2 : Int) - 52) (-1074)).toNat = q at this ⊢
    omega
end Go.Proofs.Ytcnecjjgnnkjkaa
