/-
  Shares of a total by whole weights, in plain lists. No condition.
-/
import Derived.Test.YtcnecjjgnnkjkaaWeighM
namespace Go.Proofs.Ytcnecjjgnnkjkaa

/-- What a weight has of what is left above the least. -/
def part (left all n : Nat) : Nat := if 0 < all then n * left / all else 0
def partsS (left all : Nat) (ns : List Nat) : Nat := (ns.map (part left all)).sum
/-- One more each for those that weigh, while there is a rest. -/
def more : Nat → List Nat → List Nat → List Nat
  | r, n :: ns, o :: os => if 0 < r ∧ 0 < n then (o + 1) :: more (r - 1) ns os else o :: more r ns os
  | _, _, _ => []
def headMore (r : Nat) : List Nat → List Nat
  | [] => []
  | o :: os => (o + r) :: os
/-- The shares of a total of at least least for each. -/
def shareL (total least : Nat) (ns : List Nat) : List Nat :=
  let left := total - least * ns.length
  let all := ns.sum
  let out := ns.map (fun n => least + part left all n)
  let rest := left - partsS left all ns
  if all = 0 then headMore rest out else more rest ns out
theorem part_mul_le (left all n : Nat) : part left all n * all ≤ n * left := by
  unfold part
  split
  · exact Nat.div_mul_le_self _ _
  · simp
theorem parts_mul (left all : Nat) (ns : List Nat) : partsS left all ns * all ≤ ns.sum * left := by
  induction ns with
  | nil => simp [partsS]
  | cons n ns ih =>
    unfold partsS at ih ⊢
    rw [List.map_cons, List.sum_cons, List.sum_cons, Nat.add_mul, Nat.add_mul]
    exact Nat.add_le_add (part_mul_le left all n) ih
/-- The parts are no more than what is left. -/
theorem parts_le (left : Nat) (ns : List Nat) : partsS left ns.sum ns ≤ left := by
  by_cases h : 0 < ns.sum
  · have := parts_mul left ns.sum ns
    rw [Nat.mul_comm ns.sum left] at this
    exact Nat.le_of_mul_le_mul_right this h
  · have h0 : ns.sum = 0 := by omega
    have : ∀ l : List Nat, partsS left 0 l = 0 := by
      intro l
      induction l with
      | nil => rfl
      | cons n l ih => unfold partsS at ih ⊢; rw [List.map_cons, List.sum_cons, ih]; rfl
    rw [h0, this]
    omega
theorem more_len : ∀ (r : Nat) (ns os : List Nat), ns.length = os.length → (more r ns os).length = ns.length
  | _, [], [], _ => rfl
  | r, n :: ns, o :: os, h => by
    unfold more
    have h' : ns.length = os.length := by simpa using h
    split
    · simp [more_len (r - 1) ns os h']
    · simp [more_len r ns os h']
  | _, [], _ :: _, h => by simp at h
  | _, _ :: _, [], h => by simp at h
theorem share_len (total least : Nat) (ns : List Nat) : (shareL total least ns).length = ns.length := by
  unfold shareL
  simp only
  split
  · cases ns <;> simp [headMore]
  · exact more_len _ _ _ (by simp)
end Go.Proofs.Ytcnecjjgnnkjkaa
