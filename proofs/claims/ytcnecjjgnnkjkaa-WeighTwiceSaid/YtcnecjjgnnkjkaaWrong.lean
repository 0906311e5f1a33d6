/-
  The contract of weigh.wrong. No condition.
-/
import Derived.Test.YtcnecjjgnnkjkaaWeigh
namespace Go.Proofs.Ytcnecjjgnnkjkaa
open Go.RowKit
set_option linter.unusedVariables false
set_option linter.unusedSimpArgs false
set_option maxRecDepth 100000

def WrongP (total least n : Int) : Prop := n < 1 ∨ 200 < n ∨ least < 1 ∨ 65536 < least ∨ total < 1 ∨ 1073741824 < total ∨ total < least * n
theorem weigh_wrong (total least n : Int) (b : Bool) (hb : b = true ↔ WrongP total least n) (w : World) :
    Calls Try.prog 29 #[.int .i64 total, .int .i64 least, .int .i64 n] w fun e w' => e = .returned (.bool b) ∧ Below w.heap.size w w' := by
  unfold WrongP at hb
  by_cases h1 : n < 1
  · obtain rfl : b = true := hb.2 (.inl h1)
    clear hb
    go_enter Try.func29, Try.ntmps29
    go_wp2_with fail
    go_ret
    exact ⟨rfl, Below.refl _ _⟩
  by_cases h2 : n > 200
  · obtain rfl : b = true := hb.2 (.inr (.inl h2))
    clear hb
    go_enter Try.func29, Try.ntmps29
    go_wp2_with fail
    go_ret
    exact ⟨rfl, Below.refl _ _⟩
  by_cases h3 : least < 1
  · obtain rfl : b = true := hb.2 (.inr (.inr (.inl h3)))
    clear hb
    go_enter Try.func29, Try.ntmps29
    go_wp2_with fail
    go_ret
    exact ⟨rfl, Below.refl _ _⟩
  by_cases h4 : least > 65536
  · obtain rfl : b = true := hb.2 (.inr (.inr (.inr (.inl h4))))
    clear hb
    go_enter Try.func29, Try.ntmps29
    go_wp2_with fail
    go_ret
    exact ⟨rfl, Below.refl _ _⟩
  by_cases h5 : total < 1
  · obtain rfl : b = true := hb.2 (.inr (.inr (.inr (.inr (.inl h5)))))
    clear hb
    go_enter Try.func29, Try.ntmps29
    go_wp2_with fail
    go_ret
    exact ⟨rfl, Below.refl _ _⟩
  by_cases h6 : total > 1073741824
  · obtain rfl : b = true := hb.2 (.inr (.inr (.inr (.inr (.inr (.inl h6))))))
    clear hb
    go_enter Try.func29, Try.ntmps29
    go_wp2_with fail
    go_ret
    exact ⟨rfl, Below.refl _ _⟩
  have hw : IntKind.i64.wrap (least * n) = least * n := by
    rw [IntKind.wrap_i64]
    have a1 : 0 ≤ least * n := Int.mul_nonneg (by omega) (by omega)
    have a2 : least * n ≤ 65536 * 200 := Int.mul_le_mul (by omega) (by omega) (by omega) (by omega)
    omega
  by_cases h7 : total < least * n
  · obtain rfl : b = true := hb.2 (.inr (.inr (.inr (.inr (.inr (.inr h7))))))
    clear hb
    go_enter Try.func29, Try.ntmps29
    go_wp2_with fail
    go_ret
    exact ⟨rfl, Below.refl _ _⟩
  obtain rfl : b = false := by
    cases b
    · rfl
    · exfalso
      have := hb.1 rfl
      generalize least * n = q at this h7
      omega
  clear hb
  go_enter Try.func29, Try.ntmps29
  go_wp2_with fail
  go_ret
  exact ⟨rfl, Below.refl _ _⟩
end Go.Proofs.Ytcnecjjgnnkjkaa
