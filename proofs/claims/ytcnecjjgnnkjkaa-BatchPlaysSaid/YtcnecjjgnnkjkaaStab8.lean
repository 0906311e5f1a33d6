/-
  Sorting routes stably, as the library does: the whole sort. No condition but that there are no more than a thousand million routes.
-/
import Derived.Test.YtcnecjjgnnkjkaaStab7
namespace Go.Proofs.Ytcnecjjgnnkjkaa
open Go.RowKit
set_option linter.unusedVariables false
set_option linter.unusedSimpArgs false
set_option maxRecDepth 100000

def StbPost (g : Nat) (Z : List Value) (L : List Tg) (w : World) (e : Ending) (w' : World) : Prop := e = .returned (.tuple #[]) ∧ ∃ U : List Tg, U.Perm L ∧ U.Pairwise tl ∧ RowT w' g U Z ∧ Chg (· = g) w w'
end Go.Proofs.Ytcnecjjgnnkjkaa
