/-
  Package mirror's example, alive, of the law's package 8: it answers true and leaves memory alone. No condition.
-/
import Derived.Test.YtgmknnmcanbfeaaMir
namespace Go.Proofs.Ytgmknnmcanbfeaa
open Go.RowKit
set_option linter.unusedVariables false
set_option linter.unusedSimpArgs false

theorem mir_alive (w : World) : Calls Try.prog 47 #[] w fun e w' => e = .returned (.bool true) ∧ Below w.heap.size w w' := by
  have hc0 : (((List.replicate (mcap 5) false).countP id : Nat) : Int) = 0 := by decide
  have hc1 : (((setC (List.replicate (mcap 5) false) 4 true).countP id : Nat) : Int) = 1 := by decide
  have hl : (((setC (List.replicate (mcap 5) false) 4 true).length : Nat) : Int) = 5 := by decide
  have hg4 : on0 (setC (List.replicate (mcap 5) false) 4 true) 4 = true := by decide
  go_enter Try.func47, Try.ntmps47
  go_wp2_with fail
  refine (mir_make _ _).mono ?_
  rintro e w1 ⟨g, q, rfl, hg, hq, hne, H, hb⟩
  go_wp2_with fail
  refine (mir_counts H _ hc0).mono ?_
  rintro e w2 ⟨rfl, rfl⟩
  go_wp2_with fail
  refine (mir_put H _ _).mono ?_
  rintro e w2 ⟨rfl, H2, hb2⟩
  go_wp2_with first
    | (go_at_call 51; refine (mir_length H2 _ hl).mono ?_; rintro e w3 ⟨rfl, rfl⟩)
    | (go_at_call 52; refine (mir_counts H2 _ hc1).mono ?_; rintro e w3 ⟨rfl, rfl⟩)
    | (go_at_call 50; refine (mir_at H2 _ _ hg4).mono ?_; rintro e w3 ⟨rfl, rfl⟩)
  go_ret
  exact ⟨rfl, hb.trans (hb2.below (by exact hb.size) (by omega))⟩
end Go.Proofs.Ytgmknnmcanbfeaa
