/-
  Law 25, BatchNone, whole. No condition.
-/
import Derived.Test.YtcnecjjgnnkjkaaBatchNone
namespace Go.Proofs.Ytcnecjjgnnkjkaa
open Go.RowKit
set_option linter.unusedVariables false
set_option linter.unusedSimpArgs false
set_option maxRecDepth 100000

theorem batchNone_walk (W : World) (v : Value) (l : List Cm) (R : Rd cmEn 10 W v l) (okl : ∀ c ∈ l, c.ok) (bad : Int) (wb : (Lit.int .i64 bad).wf = true) (t : Int) (wt : (Lit.int .i64 t).wf = true) :
    Calls Try.prog 8 #[v, .int .i64 bad, .int .i64 t] W fun e W' => e = .returned (.bool true) ∧ Below W.heap.size W W' := by
  by_cases h : l.length ≤ 40 ∧ 0 ≤ bad ∧ bad ≤ 4 ∧ 0 ≤ t
  · obtain ⟨h1, h2, h3, h4⟩ := h
    obtain ⟨d, rfl⟩ := Int.eq_ofNat_of_zero_le h2
    obtain ⟨u, rfl⟩ := Int.eq_ofNat_of_zero_le h4
    exact batchNone_in W v l R okl h1 d (by omega) u wt
  · have cA := hid (book_alive W)
    obtain ⟨A, cap, rfl, hcap, hcm⟩ := R.form
    obtain ⟨n, hn⟩ : ∃ n, l.length = n := ⟨_, rfl⟩
    rw [hn] at h ⊢
    clear hn R okl hcap hcm wb wt
    have h' : 40 < n ∨ (n ≤ 40 ∧ bad < 0) ∨ (n ≤ 40 ∧ 0 ≤ bad ∧ 4 < bad) ∨ (n ≤ 40 ∧ 0 ≤ bad ∧ bad ≤ 4 ∧ t < 0) := by omega
    clear h
    rcases h' with h | ⟨h1, h2⟩ | ⟨h1, h2, h3⟩ | ⟨h1, h2, h3, h4⟩
    · have e0 : decide ((40 : Int) < (n : Int)) = true := decide_eq_true (by omega)
      clear h
      go_enter Try.func8, Try.ntmps8
      go_wp2_with fail
      refine cA.out.mono ?_
      rintro _ w1 ⟨rfl, hb1⟩
      have HB1 := hid hb1
      clear hb1 cA
      go_wp2_with fail
      go_ret
      exact ⟨rfl, HB1.out⟩
    · have e0 : decide ((40 : Int) < (n : Int)) = false := decide_eq_false (by omega)
      have e1 : decide (bad < 0) = true := decide_eq_true (by omega)
      clear h1 h2
      go_enter Try.func8, Try.ntmps8
      go_wp2_with fail
      refine cA.out.mono ?_
      rintro _ w1 ⟨rfl, hb1⟩
      have HB1 := hid hb1
      clear hb1 cA
      go_wp2_with fail
      go_ret
      exact ⟨rfl, HB1.out⟩
    · have e0 : decide ((40 : Int) < (n : Int)) = false := decide_eq_false (by omega)
      have e1 : decide (bad < 0) = false := decide_eq_false (by omega)
      have e2 : decide (4 < bad) = true := decide_eq_true (by omega)
      clear h1 h2 h3
      go_enter Try.func8, Try.ntmps8
      go_wp2_with fail
      refine cA.out.mono ?_
      rintro _ w1 ⟨rfl, hb1⟩
      have HB1 := hid hb1
      clear hb1 cA
      go_wp2_with fail
      go_ret
      exact ⟨rfl, HB1.out⟩
    · have e0 : decide ((40 : Int) < (n : Int)) = false := decide_eq_false (by omega)
      have e1 : decide (bad < 0) = false := decide_eq_false (by omega)
      have e2 : decide (4 < bad) = false := decide_eq_false (by omega)
      have e3 : decide (t < 0) = true := decide_eq_true (by omega)
      clear h1 h2 h3 h4
      go_enter Try.func8, Try.ntmps8
      go_wp2_with fail
      refine cA.out.mono ?_
      rintro _ w1 ⟨rfl, hb1⟩
      have HB1 := hid hb1
      clear hb1 cA
      go_wp2_with fail
      go_ret
      exact ⟨rfl, HB1.out⟩
end Go.Proofs.Ytcnecjjgnnkjkaa
