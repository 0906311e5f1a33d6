/-
  What turns: a key, what it had, what it has; as cells. No condition.
-/
import Derived.Test.YtcnecjjgnnkjkaaGRef
namespace Go.Proofs.Ytcnecjjgnnkjkaa
open Go.RowKit
set_option linter.unusedVariables false

abbrev Ch := Pf × Int × Int
def chgEn (x : Ch) : List Value := [.int .u64 (x.1.1.1 : Int), .int .u64 (x.1.1.2 : Int), .int .i64 x.1.2, .int .i64 x.2.1, .int .i64 x.2.2]
theorem chgEn_len (x : Ch) : (chgEn x).length = 5 := rfl
theorem cells_ch (x : Ch) : ∀ u ∈ chgEn x, u.oneCell' = true := by intro u hu; simp [chgEn] at hu; rcases hu with rfl | rfl | rfl | rfl | rfl <;> rfl
def chsV (l : List Ch) : List Value := l.flatMap chgEn
theorem chsV_snoc (l : List Ch) (x : Ch) : chsV (l ++ [x]) = chsV l ++ chgEn x := by simp [chsV]
end Go.Proofs.Ytcnecjjgnnkjkaa
