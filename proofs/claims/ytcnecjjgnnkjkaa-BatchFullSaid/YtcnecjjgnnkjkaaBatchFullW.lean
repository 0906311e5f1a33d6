/-
  Law 25, BatchFull, whole. No condition.
-/
import Derived.Test.YtcnecjjgnnkjkaaBatchFull
namespace Go.Proofs.Ytcnecjjgnnkjkaa
open Go.RowKit
set_option linter.unusedVariables false
set_option linter.unusedSimpArgs false
set_option maxRecDepth 100000

theorem batchFull_walk (W : World) (x : Int) (wx : (Lit.int .i64 x).wf = true) (y : Int) (wy : (Lit.int .i64 y).wf = true) (z : Int) (wz : (Lit.int .i64 z).wf = true) :
    Calls Try.prog 9 #[.int .i64 x, .int .i64 y, .int .i64 z] W fun e W' => e = .returned (.bool true) ∧ Below W.heap.size W W' := by
  by_cases h : 1 ≤ x ∧ x ≤ 40 ∧ 1 ≤ y ∧ y ≤ 20 ∧ 0 ≤ z ∧ z ≤ 60
  · obtain ⟨h1, h2, h3, h4, h5, h6⟩ := h
    obtain ⟨a, rfl⟩ := Int.eq_ofNat_of_zero_le (show 0 ≤ x by omega)
    obtain ⟨c, rfl⟩ := Int.eq_ofNat_of_zero_le (show 0 ≤ y by omega)
    obtain ⟨n, rfl⟩ := Int.eq_ofNat_of_zero_le h5
    exact batchFull_in W a c n (by omega) (by omega) (by omega) (by omega) (by omega)
  · have cA := hid (book_alive W)
    have h' : x < 1 ∨ (1 ≤ x ∧ 40 < x) ∨ (1 ≤ x ∧ x ≤ 40 ∧ y < 1) ∨ (1 ≤ x ∧ x ≤ 40 ∧ 1 ≤ y ∧ 20 < y) ∨ (1 ≤ x ∧ x ≤ 40 ∧ 1 ≤ y ∧ y ≤ 20 ∧ z < 0) ∨ (1 ≤ x ∧ x ≤ 40 ∧ 1 ≤ y ∧ y ≤ 20 ∧ 0 ≤ z ∧ 60 < z) := by omega
    clear h wx wy wz
    rcases h' with h | h | h | h | h | h
    · have e0 : decide (x < 1) = true := decide_eq_true (by omega)
      clear h
      go_enter Try.func9, Try.ntmps9
      go_wp2_with fail
      refine cA.out.mono ?_
      rintro _ w1 ⟨rfl, hb1⟩
      have HB1 := hid hb1
      clear hb1 cA
      go_wp2_with fail
      go_ret
      exact ⟨rfl, HB1.out⟩
    · have e0 : decide (x < 1) = false := decide_eq_false (by omega)
      have e1 : decide (40 < x) = true := decide_eq_true (by omega)
      clear h
      go_enter Try.func9, Try.ntmps9
      go_wp2_with fail
      refine cA.out.mono ?_
      rintro _ w1 ⟨rfl, hb1⟩
      have HB1 := hid hb1
      clear hb1 cA
      go_wp2_with fail
      go_ret
      exact ⟨rfl, HB1.out⟩
    · have e0 : decide (x < 1) = false := decide_eq_false (by omega)
      have e1 : decide (40 < x) = false := decide_eq_false (by omega)
      have e2 : decide (y < 1) = true := decide_eq_true (by omega)
      clear h
      go_enter Try.func9, Try.ntmps9
      go_wp2_with fail
      refine cA.out.mono ?_
      rintro _ w1 ⟨rfl, hb1⟩
      have HB1 := hid hb1
      clear hb1 cA
      go_wp2_with fail
      go_ret
      exact ⟨rfl, HB1.out⟩
    · have e0 : decide (x < 1) = false := decide_eq_false (by omega)
      have e1 : decide (40 < x) = false := decide_eq_false (by omega)
      have e2 : decide (y < 1) = false := decide_eq_false (by omega)
      have e3 : decide (20 < y) = true := decide_eq_true (by omega)
      clear h
      go_enter Try.func9, Try.ntmps9
      go_wp2_with fail
      refine cA.out.mono ?_
      rintro _ w1 ⟨rfl, hb1⟩
      have HB1 := hid hb1
      clear hb1 cA
      go_wp2_with fail
      go_ret
      exact ⟨rfl, HB1.out⟩
    · have e0 : decide (x < 1) = false := decide_eq_false (by omega)
      have e1 : decide (40 < x) = false := decide_eq_false (by omega)
      have e2 : decide (y < 1) = false := decide_eq_false (by omega)
      have e3 : decide (20 < y) = false := decide_eq_false (by omega)
      have e4 : decide (z < 0) = true := decide_eq_true (by omega)
      clear h
      go_enter Try.func9, Try.ntmps9
      go_wp2_with fail
      refine cA.out.mono ?_
      rintro _ w1 ⟨rfl, hb1⟩
      have HB1 := hid hb1
      clear hb1 cA
      go_wp2_with fail
      go_ret
      exact ⟨rfl, HB1.out⟩
    · have e0 : decide (x < 1) = false := decide_eq_false (by omega)
      have e1 : decide (40 < x) = false := decide_eq_false (by omega)
      have e2 : decide (y < 1) = false := decide_eq_false (by omega)
      have e3 : decide (20 < y) = false := decide_eq_false (by omega)
      have e4 : decide (z < 0) = false := decide_eq_false (by omega)
      have e5 : decide (60 < z) = true := decide_eq_true (by omega)
      clear h
      go_enter Try.func9, Try.ntmps9
      go_wp2_with fail
      refine cA.out.mono ?_
      rintro _ w1 ⟨rfl, hb1⟩
      have HB1 := hid hb1
      clear hb1 cA
      go_wp2_with fail
      go_ret
      exact ⟨rfl, HB1.out⟩
end Go.Proofs.Ytcnecjjgnnkjkaa
