/-
  weigh.Shares of what can't be shared. No condition.
-/
import Derived.Test.YtcnecjjgnnkjkaaWrong
import Derived.Test.YtcnecjjgnnkjkaaShareM
namespace Go.Proofs.Ytcnecjjgnnkjkaa
open Go.RowKit
set_option linter.unusedVariables false
set_option linter.unusedSimpArgs false
set_option maxRecDepth 100000

theorem weigh_shares_no (A : Option Addr) (n cap : Nat) (total least : Int) (h : WrongP total least (n : Int)) (w : World) :
    Calls Try.prog 11 #[.int .i64 total, .int .i64 least, .slice A n cap] w fun e w' => e = .returned (.tuple #[.slice none 0 0, .int .i64 1]) ∧ Below w.heap.size w w' := by
  have c1 := hid (fun w => weigh_wrong total least (n : Int) true (by simp [h]) w)
  clear h
  go_enter Try.func11, Try.ntmps11
  go_wp2_with fail
  refine (c1.out _).mono ?_
  rintro _ w1 ⟨rfl, hb⟩
  have HB := hid hb
  clear hb c1
  go_wp2_with fail
  go_ret2
  exact ⟨rfl, HB.out⟩
def flEn (x : Nat) : List Value := [.float .f64 x]
theorem flEn_len (x : Nat) : (flEn x).length = 1 := rfl
def SumRel (w1 : World) (xs : List Nat) (all i : Value) (wr : World) : Prop := ∃ j : Nat, j ≤ xs.length ∧ i = .int .i64 j ∧ all = .int .i64 (((xs.take j).map wN).sum : Nat) ∧ Below w1.heap.size w1 wr
theorem sum_le (xs : List Nat) : (xs.map wN).sum ≤ 2 ^ 30 * xs.length := by
  induction xs with
  | nil => simp
  | cons x xs ih => rw [List.map_cons, List.sum_cons, List.length_cons, Nat.mul_succ]; have := wN_le x; omega
theorem sum_snoc {xs : List Nat} {j x : Nat} (h : xs[j]? = some x) : ((xs.take (j + 1)).map wN).sum = ((xs.take j).map wN).sum + wN x := by
  obtain ⟨hj, e⟩ := List.getElem?_eq_some_iff.1 h
  rw [List.take_succ_eq_append_getElem hj, e, List.map_append, List.sum_append]
  simp
end Go.Proofs.Ytcnecjjgnnkjkaa
