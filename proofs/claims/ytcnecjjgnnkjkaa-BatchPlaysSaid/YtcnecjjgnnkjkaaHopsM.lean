/-
  How often a number stands in a list, how many unlike ones there are; a map that tells so. No condition.
-/
import Derived.Maps.OwnSet
import Derived.Maps.OwnOps
import Derived.Maps.Views
import Derived.Test.YtcnecjjgnnkjkaaGBase
namespace Go.Proofs.Ytcnecjjgnnkjkaa
open Go.RowKit Go.Maps
set_option linter.unusedVariables false
set_option linter.unusedSimpArgs false

/-- How many unlike ones. -/
def dist : List Int → Nat
  | [] => 0
  | x :: l => if x ∈ l then dist l else dist l + 1
theorem dist_cons (x : Int) (l : List Int) : dist (x :: l) = if x ∈ l then dist l else dist l + 1 := rfl
theorem dist_le : ∀ l : List Int, dist l ≤ l.length
  | [] => Nat.le_refl _
  | x :: l => by
    have := dist_le l
    rw [dist_cons]
    split
    · simp only [List.length_cons]; omega
    · simp only [List.length_cons]; omega
theorem dist_perm {l l' : List Int} (h : l.Perm l') : dist l = dist l' := by
  induction h with
  | nil => rfl
  | @cons x l1 l2 h ih =>
    rw [dist_cons, dist_cons, ih]
    by_cases k : x ∈ l1
    · rw [if_pos k, if_pos (h.mem_iff.1 k)]
    · rw [if_neg k, if_neg (fun q => k (h.mem_iff.2 q))]
  | swap x y l =>
    rw [dist_cons, dist_cons, dist_cons, dist_cons]
    simp only [List.mem_cons]
    by_cases e : x = y
    · subst e; rfl
    · by_cases h1 : x ∈ l <;> by_cases h2 : y ∈ l <;> simp [h1, h2, e, Ne.symm e]
  | trans _ _ ih1 ih2 => exact ih1.trans ih2
theorem count_pos_mem {l : List Int} {x : Int} : 0 < l.count x ↔ x ∈ l := List.count_pos_iff
theorem ikl (x : Int) : WideAt.IsKeyLit (.int .i64 x) := trivial
/-- What a map of counts tells. -/
structure MapIs (D : DataW Unit) (L : List Int) : Prop where
  tidy : Tidy D
  at_ : ∀ x : Int, D.atKey (.int .i64 x) (.lit (.int .i64 0)) = .lit (.int .i64 (L.count x : Int))
  has_ : ∀ x : Int, has D (.int .i64 x) = decide (x ∈ L)
  size_ : Maps.size D = dist L
theorem MapIs.nil : MapIs (.map []) [] := ⟨tidy_empty, fun x => rfl, fun x => rfl, rfl⟩
theorem key_ne {x y : Int} (h : x ≠ y) : (Lit.int .i64 x) ≠ .int .i64 y := fun k => h (by injection k)
theorem MapIs.up {D : DataW Unit} {L : List Int} (h : MapIs D L) (x : Int) : MapIs (D.put (.int .i64 x) (.lit (.int .i64 ((L.count x + 1 : Nat) : Int)))) (x :: L) := by
  refine ⟨h.tidy.put (ikl _) _, fun y => ?_, fun y => ?_, ?_⟩
  · by_cases e : y = x
    · subst e; rw [atKey_put_same h.tidy.isMap (ikl _), List.count_cons_self]
    · rw [atKey_put_other (key_ne e), h.at_, List.count_cons_of_ne (Ne.symm e)]
  · by_cases e : y = x
    · subst e; rw [has_put_same h.tidy.isMap (ikl _)]; simp
    · rw [has_put_other (key_ne e), h.has_]; simp [e]
  · rw [size_put h.tidy, h.has_, h.size_, dist_cons]
    by_cases k : x ∈ L
    · simp [k]
    · simp [k]
theorem MapIs.down {D : DataW Unit} {L L' : List Int} (h : MapIs D L) {x : Int} (hp : L.Perm (x :: L')) (hx : x ∈ L') : MapIs (D.put (.int .i64 x) (.lit (.int .i64 ((L.count x - 1 : Nat) : Int)))) L' := by
  have hc := fun y => hp.count_eq y
  refine ⟨h.tidy.put (ikl _) _, fun y => ?_, fun y => ?_, ?_⟩
  · by_cases e : y = x
    · subst e; rw [atKey_put_same h.tidy.isMap (ikl _), hc, List.count_cons_self]; rfl
    · rw [atKey_put_other (key_ne e), h.at_, hc, List.count_cons_of_ne (Ne.symm e)]
  · by_cases e : y = x
    · subst e; rw [has_put_same h.tidy.isMap (ikl _)]; simp [hx]
    · rw [has_put_other (key_ne e), h.has_]; simp [hp.mem_iff, e]
  · rw [size_put h.tidy, h.has_, h.size_, dist_perm hp]
    have : x ∈ L := hp.mem_iff.2 (by simp)
    rw [dist_cons]
    simp [this, hx]
theorem MapIs.drop {D : DataW Unit} {L L' : List Int} (h : MapIs D L) {x : Int} (hp : L.Perm (x :: L')) (hx : x ∉ L') (d : DataW Unit) : MapIs ((D.put (.int .i64 x) d).del (.int .i64 x)) L' := by
  have hc := fun y => hp.count_eq y
  have hx0 : L'.count x = 0 := by rw [List.count_eq_zero]; exact hx
  have hm : x ∈ L := hp.mem_iff.2 (by simp)
  refine ⟨(h.tidy.put (ikl _) _).del _, fun y => ?_, fun y => ?_, ?_⟩
  · by_cases e : y = x
    · subst e; rw [atKey_del_same, hx0]; rfl
    · rw [atKey_del_other (key_ne e), atKey_put_other (key_ne e), h.at_, hc, List.count_cons_of_ne (Ne.symm e)]
  · by_cases e : y = x
    · subst e; rw [has_del_same]; simp [hx]
    · rw [has_del_other (key_ne e), has_put_other (key_ne e), h.has_]; simp [hp.mem_iff, e]
  · have h1 := size_del (h.tidy.put (k := .int .i64 x) (ikl _) d) (k := .int .i64 x)
    rw [size_put h.tidy, h.has_, has_put_same h.tidy.isMap (ikl _), h.size_, dist_perm hp] at h1
    rw [show decide (x ∈ L) = true from decide_eq_true hm] at h1
    rw [dist_cons, if_neg hx] at h1
    simp at h1
    omega
end Go.Proofs.Ytcnecjjgnnkjkaa
