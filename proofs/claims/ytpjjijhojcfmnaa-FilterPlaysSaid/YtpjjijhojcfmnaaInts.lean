/-
  Numbers and truths as elements of slices. No condition.
-/
import Derived.Test.YtpjjijhojcfmnaaRd
namespace Go.Proofs.Ytpjjijhojcfmnaa
open Go.RowKit
set_option linter.unusedVariables false
set_option linter.unusedSimpArgs false

def iEn (n : Int) : List Value := [.int .i64 n]
def bEn (b : Bool) : List Value := [.bool b]
theorem iEn_len (n : Int) : (iEn n).length = 1 := rfl
theorem bEn_len (b : Bool) : (bEn b).length = 1 := rfl
theorem open_i : Opens Try.prog 3 Int iEn (fun n => (Lit.int .i64 n).wf = true) := Opens.int Try.underlying3 (by kernel_rfl)
theorem open_b : Opens Try.prog 4 Bool bEn (fun _ => True) := Opens.bool Try.underlying4 (by kernel_rfl)
theorem i_cells : Try.prog.cellsOf 3 = 1 := by kernel_rfl
theorem b_cells : Try.prog.cellsOf 4 = 1 := by kernel_rfl
def nEn (n : Nat) : List Value := [.int .i64 (n : Int)]
theorem nEn_len (n : Nat) : (nEn n).length = 1 := rfl
theorem nEn_flat (l : List Nat) : l.flatMap nEn = l.map fun (x : Nat) => .int .i64 (x : Int) := by induction l with | nil => rfl | cons x l ih => rw [List.flatMap_cons, ih]; rfl
theorem cells_n (r : Nat) : ∀ u ∈ nEn r, u.oneCell' = true := by intro u hu; simp [nEn] at hu; subst hu; rfl
theorem cells_i (r : Int) : ∀ u ∈ iEn r, u.oneCell' = true := by intro u hu; simp [iEn] at hu; subst hu; rfl
theorem pfE_len (p : Pf) : (pfEn p).length = 3 := rfl
theorem pfE_cells : Try.prog.cellsOf 34 = 3 := by kernel_rfl

end Go.Proofs.Ytpjjijhojcfmnaa
