/-
  Arguments that are rows of calls of law 14. No condition.
-/
import Derived.Test.YtjhgmjfjlndomaaTriePlays
import Derived.Test.YtjhgmjfjlndomaaAddrOpen
namespace Go.Proofs.Ytjhgmjfjlndomaa
open Go.RowKit
set_option linter.unusedVariables false

theorem open_act : Opens Try.prog 63 Actn actEn Actn.fit :=
  (Opens.struct3 Try.underlying63 open_b open_pf (Opens.int Try.underlying3 (by kernel_rfl)) ⟨rfl, by kernel_rfl, by kernel_rfl, by kernel_rfl⟩).map (fun x => x)
    (fun a h => rfl) (fun _ => (show 5 = Try.prog.cellsOf 63 by kernel_rfl)) (fun a h => h.2.1)
theorem act_cells : Try.prog.cellsOf 63 = 5 := by kernel_rfl


end Go.Proofs.Ytjhgmjfjlndomaa
