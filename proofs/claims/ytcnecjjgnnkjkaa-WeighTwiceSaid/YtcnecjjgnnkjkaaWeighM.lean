/-
  What any number weighs, as a whole number. Plain arithmetic. No condition.
-/
import Derived.Test.YtcnecjjgnnkjkaaFloatM
namespace Go.Proofs.Ytcnecjjgnnkjkaa
open Ieee
set_option maxRecDepth 100000
set_option linter.unusedSimpArgs false

theorem fcmp_gt (a b : Int) : compare a b = .gt ↔ b < a := by
  show compareOfLessAndEq a b = _ ↔ _
  unfold compareOfLessAndEq
  by_cases h : a < b
  · simp [h]; omega
  · by_cases e : a = b
    · simp [e]
    · simp [h, e]; omega
theorem fcmp_lt (a b : Int) : compare a b = .lt ↔ a < b := by
  show compareOfLessAndEq a b = _ ↔ _
  unfold compareOfLessAndEq
  by_cases h : a < b
  · simp [h]
  · by_cases e : a = b
    · simp [e]
    · simp [h, e]
theorem fcmp_eq (a b : Int) : compare a b = .eq ↔ a = b := by
  show compareOfLessAndEq a b = _ ↔ _
  unfold compareOfLessAndEq
  by_cases h : a < b
  · simp [h]; omega
  · by_cases e : a = b
    · simp [e]
    · simp [h, e]
/-- The word of 2^30. -/
def c30 : Nat := 4742290407621132288
theorem c30_wd : wd (2 ^ 30) = c30 := by decide +kernel
theorem read_c30 : double.read c30 = .number false (2 ^ 52) (-22) := by decide +kernel
theorem read_0 : double.read 0 = .number false 0 (-1074) := by decide +kernel
/-- What a word weighs. -/
def wN (x : Nat) : Nat := if double.order x c30 = some .gt then 2 ^ 30 else if double.order x 0 = some .gt then (((double.read x).toInt .zero).getD 0).toNat else 0
theorem signed_f (m up : Nat) : signed false m up = ((m * 2 ^ up : Nat) : Int) := by simp [signed, Nat.shiftLeft_eq]
theorem signed_t (m up : Nat) : signed true m up = -((m * 2 ^ up : Nat) : Int) := by simp [signed, Nat.shiftLeft_eq]
/-- A word above nought that is not above 2^30. -/
theorem between {x : Nat} (h0 : double.order x 0 = some .gt) (h1 : double.order x c30 ≠ some .gt) :
    ∃ (m : Nat) (i : Int), double.read x = .number false m i ∧ (m * 2 ^ i.toNat) / 2 ^ (-i).toNat ≤ 2 ^ 30 ∧ (double.order x c30 = some .eq → (m * 2 ^ i.toNat) / 2 ^ (-i).toNat = 2 ^ 30) ∧ double.order x c30 ≠ none := by
  unfold Format.order at h0 h1 ⊢
  rw [read_c30] at h1 ⊢
  rw [read_0] at h0
  cases hx : double.read x with
  | nan s t => rw [hx] at h0; simp [Datum.order] at h0
  | infinity s =>
    rw [hx] at h0 h1
    cases s
    · simp [Datum.order] at h1
    · simp [Datum.order] at h0
  | number s m i =>
    rw [hx] at h0 h1
    have hs : s = false := by
      cases s
      · rfl
      · exfalso
        simp only [Datum.order, Option.some.injEq, fcmp_gt, signed_t, signed_f, Nat.zero_mul] at h0
        generalize m * 2 ^ (i - min i (-1074)).toNat = q at h0
        omega
    subst hs
    refine ⟨m, i, rfl, ?_⟩
    simp only [Datum.order, Option.some.injEq, ne_eq, fcmp_gt, fcmp_eq, signed_f] at h1 ⊢
    have hle : m * 2 ^ (i - min i (-22)).toNat ≤ 2 ^ 52 * 2 ^ ((-22) - min i (-22)).toNat := by
      have := Int.not_lt.1 h1
      exact_mod_cast this
    rcases Int.le_total (-22) i with hi | hi
    · have e1 : min i (-22) = -22 := by omega
      rw [e1] at hle ⊢
      have e2 : ((-22 : Int) - -22).toNat = 0 := by omega
      rw [e2] at hle ⊢
      have e3 : (i - -22).toNat = (i + 22).toNat := by omega
      rw [e3] at hle ⊢
      rcases Int.le_total 0 i with h2 | h2
      · have e4 : (-i).toNat = 0 := by omega
        have e5 : (i + 22).toNat = i.toNat + 22 := by omega
        rw [e5, Nat.pow_add, ← Nat.mul_assoc] at hle ⊢
        rw [e4]
        generalize m * 2 ^ i.toNat = q at *
        refine ⟨by omega, fun h => ?_, by simp⟩
        have h' : q * 2 ^ 22 = 2 ^ 52 * 2 ^ 0 := by exact_mod_cast h
        omega
      · have e4 : i.toNat = 0 := by omega
        have e5 : 22 = (i + 22).toNat + (-i).toNat := by omega
        rw [e4, Nat.pow_zero, Nat.mul_one]
        have e6 : (2 : Nat) ^ 52 = 2 ^ 30 * (2 ^ (i + 22).toNat * 2 ^ (-i).toNat) := by rw [← Nat.pow_add, ← e5]
        have hp : 0 < 2 ^ (i + 22).toNat := Nat.two_pow_pos _
        have hq : 0 < 2 ^ (-i).toNat := Nat.two_pow_pos _
        refine ⟨?_, fun h => ?_, by simp⟩
        · refine Nat.div_le_of_le_mul ?_
          refine Nat.le_of_mul_le_mul_right (c := 2 ^ (i + 22).toNat) ?_ hp
          calc m * 2 ^ (i + 22).toNat ≤ 2 ^ 52 * 2 ^ 0 := hle
            _ = 2 ^ (-i).toNat * 2 ^ 30 * 2 ^ (i + 22).toNat := by rw [e6]; simp only [Nat.pow_zero, Nat.mul_one]; ac_rfl
        · have h' : m * 2 ^ (i + 22).toNat = 2 ^ 52 * 2 ^ 0 := by exact_mod_cast h
          have h2 : m = 2 ^ 30 * 2 ^ (-i).toNat := by
            refine Nat.eq_of_mul_eq_mul_right hp ?_
            rw [h', e6]; simp only [Nat.pow_zero, Nat.mul_one]; ac_rfl
          rw [h2, Nat.mul_div_cancel _ hq]
    · have e1 : min i (-22) = i := by omega
      rw [e1] at hle ⊢
      have e2 : (i - i).toNat = 0 := by omega
      have e4 : i.toNat = 0 := by omega
      rw [e2] at hle ⊢
      rw [e4]
      simp only [Nat.pow_zero, Nat.mul_one] at hle ⊢
      have e5 : 30 + (-i).toNat = 52 + (-22 - i).toNat := by omega
      have e6 : 2 ^ 52 * 2 ^ (-22 - i).toNat = 2 ^ 30 * 2 ^ (-i).toNat := by rw [← Nat.pow_add, ← Nat.pow_add, e5]
      have hq : 0 < 2 ^ (-i).toNat := Nat.two_pow_pos _
      rw [e6] at hle ⊢
      refine ⟨Nat.div_le_of_le_mul (by rw [Nat.mul_comm]; exact hle), fun h => ?_, by simp⟩
      have h' : m = 2 ^ 30 * 2 ^ (-i).toNat := by exact_mod_cast h
      rw [h', Nat.mul_div_cancel _ hq]
theorem toInt_num (m : Nat) (i : Int) : (Datum.number false m i).toInt .zero = some ((m * 2 ^ i.toNat / 2 ^ (-i).toNat : Nat) : Int) := by
  unfold Datum.toInt Datum.integral
  simp only [cut_zero, cut_div, Nat.shiftLeft_eq, signed_f]
  simp
theorem floor_num (m : Nat) (i : Int) : double.write ((Datum.number false m i).integral .down) = wd (m * 2 ^ i.toNat / 2 ^ (-i).toNat) := by
  unfold Datum.integral wd
  simp only [cut_down, cut_div, Nat.shiftLeft_eq]
/-- What the reference counts. -/
theorem int_of {x : Nat} (h0 : double.order x 0 = some .gt) (h1 : double.order x c30 ≠ some .gt) : (double.read x).toInt .zero = some (wN x : Int) ∧ wN x ≤ 2 ^ 30 := by
  obtain ⟨m, i, hr, hle, _, _⟩ := between h0 h1
  unfold wN
  rw [if_neg h1, if_pos h0, hr, toInt_num]
  generalize m * 2 ^ i.toNat / 2 ^ (-i).toNat = q at hle ⊢
  exact ⟨rfl, hle⟩
theorem wN_le (x : Nat) : wN x ≤ 2 ^ 30 := by
  by_cases h1 : double.order x c30 = some .gt
  · unfold wN; rw [if_pos h1]; exact Nat.le_refl _
  · by_cases h0 : double.order x 0 = some .gt
    · exact (int_of h0 h1).2
    · unfold wN; rw [if_neg h1, if_neg h0]; omega
/-- The whole part of the lesser of the two. -/
theorem floor_lt {x : Nat} (h0 : double.order x 0 = some .gt) (h1 : double.order x c30 = some .lt) : ∃ d, double.read x = d ∧ (∀ s t, d ≠ .nan s t) ∧ double.write (d.integral .down) = wd (wN x) := by
  have h1' : double.order x c30 ≠ some .gt := by rw [h1]; decide
  obtain ⟨m, i, hr, hle, _, _⟩ := between h0 h1'
  refine ⟨_, hr, fun s t h => (by cases h), ?_⟩
  rw [floor_num]
  unfold wN
  rw [if_neg h1', if_pos h0, hr, toInt_num]
  generalize m * 2 ^ i.toNat / 2 ^ (-i).toNat = q
  rfl
theorem floor_ge {x : Nat} (h0 : double.order x 0 = some .gt) (h1 : double.order x c30 ≠ some .lt) : wN x = 2 ^ 30 := by
  by_cases h2 : double.order x c30 = some .gt
  · unfold wN; rw [if_pos h2]
  · obtain ⟨m, i, hr, hle, he, hn⟩ := between h0 h2
    have h3 : double.order x c30 = some .eq := by
      cases h : double.order x c30 with
      | none => exact absurd h hn
      | some o => cases o with
        | lt => exact absurd h h1
        | gt => exact absurd h h2
        | eq => rfl
    unfold wN
    rw [if_neg h2, if_pos h0, hr, toInt_num, he h3]
    rfl
theorem floor_c30 : double.write ((double.read c30).integral .down) = wd (2 ^ 30) := by decide +kernel
/-- Alike with itself unless it is none. -/
theorem ord_self (x : Nat) : double.order x x = if (double.read x).isNaN then none else some .eq := by
  unfold Format.order
  cases double.read x with
  | nan s t => rfl
  | infinity s => cases s <;> rfl
  | number s m i => simp [Datum.order, Datum.isNaN, fcmp_eq]
theorem ord_nan {x : Nat} (h : (double.read x).isNaN = true) (y : Nat) : double.order x y = none := by
  unfold Format.order
  cases hx : double.read x with
  | nan s t => cases double.read y <;> rfl
  | infinity s => rw [hx] at h; cases h
  | number s m i => rw [hx] at h; cases h
theorem wN_nan {x : Nat} (h : (double.read x).isNaN = true) : wN x = 0 := by
  unfold wN
  rw [ord_nan h, ord_nan h, if_neg (by decide), if_neg (by decide)]
theorem gt_0 {x : Nat} (h : double.order x c30 = some .gt) : double.order x 0 = some .gt := by
  unfold Format.order at h ⊢
  rw [read_c30] at h
  rw [read_0]
  cases hx : double.read x with
  | nan s t => rw [hx] at h; simp [Datum.order] at h
  | infinity s =>
    rw [hx] at h
    cases s
    · rfl
    · simp [Datum.order] at h
  | number s m i =>
    rw [hx] at h
    cases s
    · simp only [Datum.order, Option.some.injEq, fcmp_gt, signed_f, Nat.zero_mul] at h ⊢
      have hm : 0 < m := by
        rcases Nat.eq_zero_or_pos m with e | e
        · exfalso; subst e; rw [Nat.zero_mul] at h; generalize 2 ^ 52 * 2 ^ ((-22) - min i (-22)).toNat = q at h; omega
        · exact e
      have : 0 < m * 2 ^ (i - min i (-1074)).toNat := Nat.mul_pos hm (Nat.two_pow_pos _)
      generalize m * 2 ^ (i - min i (-1074)).toNat = q at this ⊢
      omega
    · exfalso
      simp only [Datum.order, Option.some.injEq, fcmp_gt, signed_t, signed_f] at h
      generalize m * 2 ^ (i - min i (-22)).toNat = q at h
      generalize 2 ^ 52 * 2 ^ ((-22) - min i (-22)).toNat = r at h
      omega
theorem wN_no {x : Nat} (h : double.order x 0 ≠ some .gt) : wN x = 0 := by
  unfold wN
  rw [if_neg (fun k => h (gt_0 k)), if_neg h]
theorem ord_0 {x : Nat} (h : (double.read x).isNaN = false) : double.order x 0 = some .lt ∨ double.order x 0 = some .eq ∨ double.order x 0 = some .gt := by
  have hn : double.order x 0 ≠ none := by
    unfold Format.order
    rw [read_0]
    cases hx : double.read x with
    | nan s t => rw [hx] at h; cases h
    | infinity s => simp [Datum.order]
    | number s m i => simp [Datum.order]
  cases hx : double.order x 0 with
  | none => exact absurd hx hn
  | some o => cases o <;> simp
theorem pos_neg {x : Nat} (h0 : double.order x 0 = some .gt) (h1 : double.order x c30 = some .eq) : (double.read x).neg = false := by
  obtain ⟨m, i, hr, _⟩ := between h0 (by rw [h1]; decide)
  rw [hr]; rfl
theorem ord_c30 {x : Nat} (h0 : double.order x 0 = some .gt) : double.order x c30 = some .lt ∨ double.order x c30 = some .eq ∨ double.order x c30 = some .gt := by
  cases hx : double.order x c30 with
  | none => exact absurd hx (between h0 (by rw [hx]; simp)).choose_spec.choose_spec.2.2.2
  | some o => cases o <;> simp
end Go.Proofs.Ytcnecjjgnnkjkaa
