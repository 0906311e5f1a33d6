/-
  The walk of the law AddrCommon, and of the example of package addr: for all addresses it returns true and leaves memory alone. No condition.
-/
import Derived.Test.YtpjjijhojcfmnaaAddr
namespace Go.Proofs.Ytpjjijhojcfmnaa
open Go.RowKit
set_option linter.unusedVariables false
set_option linter.unusedSimpArgs false
set_option maxRecDepth 100000
attribute [local go_sem high] eq_ad eq_pf

theorem com_self (a : Ad) : a.com a = 128 := Ad.com_eq ⟨Nat.le_refl _, fun _ _ => rfl, fun h => by omega⟩

end Go.Proofs.Ytpjjijhojcfmnaa
