/-
  Package nibble's example, alive, of the law's package 7: it answers true and leaves memory alone. No condition.
-/
import Derived.Test.YtgmknnmcanbfeaaNib
namespace Go.Proofs.Ytgmknnmcanbfeaa
open Go.RowKit
set_option linter.unusedVariables false
set_option linter.unusedSimpArgs false

theorem nib_alive (w : World) : Calls Try.prog 28 #[] w fun e w' => e = .returned (.bool true) ∧ Below w.heap.size w w' := by
  have hv : upB (List.replicate (capN 5) 0) 2 = true := by decide
  have hl : (((upC (List.replicate (capN 5) 0) 2).length : Nat) : Int) = 5 := by decide
  have hg2 : ((at0 (upC (List.replicate (capN 5) 0) 2) 2 : Nat) : Int) = 1 := by decide
  go_enter Try.func28, Try.ntmps28
  go_wp2_with fail
  refine (nib_make _ _).mono ?_
  rintro e w1 ⟨g, q, rfl, hg, hq, hne, H, hb⟩
  go_wp2_with fail
  refine (nib_up H _).mono ?_
  rintro e w2 ⟨rfl, H2, hb2⟩
  go_wp2_with first
    | (go_at_call 33; refine (nib_length H2).mono ?_; rintro e w3 ⟨rfl, rfl⟩)
    | (go_at_call 32; refine (nib_at H2 _).mono ?_; rintro e w3 ⟨rfl, rfl⟩)
  go_ret
  exact ⟨rfl, hb.trans (hb2.below (by exact hb.size) (by omega))⟩
end Go.Proofs.Ytgmknnmcanbfeaa
