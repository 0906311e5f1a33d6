/-
  The walk of the law AddrOrder: for all prefixes it returns true and leaves memory alone. No condition.
-/
import Derived.Test.YtpjjijhojcfmnaaAddrCommon
namespace Go.Proofs.Ytpjjijhojcfmnaa
open Go.RowKit
set_option linter.unusedVariables false
set_option linter.unusedSimpArgs false
set_option maxRecDepth 100000
attribute [local go_sem high] eq_ad eq_pf

/-- One prefix is ahead of another one. -/
def Pf.lt (p q : Pf) : Prop := p.1.1 < q.1.1 ∨ p.1.1 = q.1.1 ∧ (p.1.2 < q.1.2 ∨ p.1.2 = q.1.2 ∧ p.2 < q.2)
instance (p q : Pf) : Decidable (p.lt q) := by unfold Pf.lt; infer_instance
theorem cmp_lt (p q : Pf) : p.cmp q < 0 ↔ p.lt q := by
  unfold Pf.cmp or3 cmpI Pf.lt
  split
  · split <;> (try split) <;> omega
  · split
    · split <;> (try split) <;> omega
    · split <;> (try split) <;> omega
theorem pf_lt_irrefl (p : Pf) : ¬ p.lt p := by unfold Pf.lt; omega
theorem pf_lt_trans {p q r : Pf} (h : p.lt q) (k : q.lt r) : p.lt r := by unfold Pf.lt at *; omega
theorem pf_lt_total {p q : Pf} (h : p ≠ q) : p.lt q ∨ q.lt p := by
  have : p.1.1 ≠ q.1.1 ∨ p.1.2 ≠ q.1.2 ∨ p.2 ≠ q.2 := by
    rcases Nat.lt_trichotomy p.1.1 q.1.1 with h1 | h1 | h1
    · omega
    · rcases Nat.lt_trichotomy p.1.2 q.1.2 with h2 | h2 | h2
      · omega
      · right; right; intro h3; exact h (Prod.ext (Prod.ext h1 h2) h3)
      · omega
    · omega
  unfold Pf.lt; omega
theorem pf_lt_asymm {p q : Pf} (h : p.lt q) : ¬ q.lt p := by unfold Pf.lt at *; omega
theorem pf_beq (p q : Pf) : ((((p.1.1 : Nat) : Int) == (q.1.1 : Int) && (((p.1.2 : Nat) : Int) == (q.1.2 : Int))) && (p.2 == q.2)) = decide (p = q) := by
  rw [Bool.eq_iff_iff]; simp [Prod.ext_iff]; omega


end Go.Proofs.Ytpjjijhojcfmnaa
