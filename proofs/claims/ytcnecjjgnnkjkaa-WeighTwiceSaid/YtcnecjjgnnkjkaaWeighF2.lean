/-
  Whole numbers' words: sums, comparisons, what they weigh. Plain arithmetic. No condition but that they are small.
-/
import Derived.Test.YtcnecjjgnnkjkaaShareLaw
import Derived.Test.YtcnecjjgnnkjkaaOwnIn
import Derived.Test.YtcnecjjgnnkjkaaOrd
namespace Go.Proofs.Ytcnecjjgnnkjkaa
open Ieee
set_option maxRecDepth 100000
set_option linter.unusedSimpArgs false
set_option linter.unusedVariables false

/-- A number written from a finer place. -/
theorem nearest_any {q k : Nat} (h0 : q ≠ 0) (h : q < 2 ^ 53) (hk2 : k ≤ 1074) : double.nearest false (q * 2 ^ k) (-(k : Int)) = wd q := by
  obtain ⟨a, b, c⟩ := shl_range h0 h
  rw [wd_is h0 h]
  rw [Nat.shiftLeft_eq] at a b ⊢
  unfold Format.nearest
  rw [if_neg (Nat.mul_ne_zero h0 (by have := Nat.two_pow_pos k; omega))]
  have l1 : max (-(k : Int) + ((q * 2 ^ k).log2 : Int) - (double.fractionBits : Int)) (-1074) = (q.log2 : Int) - 52 := by
    rw [dbl_frac, log2_shift _ _ h0]; omega
  simp only [dbl_least, dbl_binade, dbl_infRung]
  simp only [l1]
  have l4 : ((q.log2 : Int) - 52 - -1074).toNat = q.log2 + 1022 := by omega
  rw [l4]
  by_cases hd : 52 ≤ k + q.log2
  · have l2 : (-(k : Int) - ((q.log2 : Int) - 52)).toNat = 0 := by omega
    have l3 : ((q.log2 : Int) - 52 - -(k : Int)).toNat = k + q.log2 - 52 := by omega
    rw [l2, l3, Nat.shiftLeft_zero]
    have e : q * 2 ^ k = (q * 2 ^ (52 - q.log2)) * 2 ^ (k + q.log2 - 52) := by
      rw [Nat.mul_assoc, ← Nat.pow_add]; congr 2; omega
    rw [e, cut_exact _ _ (by omega)]
    unfold Format.word
    rw [if_neg (by decide), Nat.min_eq_left (by omega)]
  · have l2 : (-(k : Int) - ((q.log2 : Int) - 52)).toNat = 52 - q.log2 - k := by omega
    have l3 : ((q.log2 : Int) - 52 - -(k : Int)).toNat = 0 := by omega
    rw [l2, l3, Nat.shiftLeft_eq]
    have e : q * 2 ^ k * 2 ^ (52 - q.log2 - k) = q * 2 ^ (52 - q.log2) := by
      rw [Nat.mul_assoc, ← Nat.pow_add]; congr 2; omega
    rw [e, cut_even_none]
    unfold Format.word
    rw [if_neg (by decide), Nat.min_eq_left (by omega)]
/-- What a word stands for, from a place below. -/
theorem read_any {n : Nat} (h : n < 2 ^ 53) : ∃ (m : Nat) (i : Int), double.read (wd n) = .number false m i ∧ -1074 ≤ i ∧ i ≤ 0 ∧ ∀ b : Int, b ≤ i → m * 2 ^ (i - b).toNat = n * 2 ^ (-b).toNat := by
  by_cases h0 : n = 0
  · subst h0
    exact ⟨0, -1074, read_wd0, by omega, by omega, fun b _ => by simp⟩
  · obtain ⟨_, _, c⟩ := shl_range h0 h
    refine ⟨_, _, read_wd h0 h, by omega, by omega, fun b hb => ?_⟩
    rw [Nat.shiftLeft_eq, Nat.mul_assoc, ← Nat.pow_add]
    congr 2; omega
theorem add_wd {n m : Nat} (h : n + m < 2 ^ 53) : floatBits .add .f64 (wd n) (wd m) = some (wd (n + m)) := by
  show double.add (wd n) (wd m) = _
  obtain ⟨a, i, ra, i1, i2, hi⟩ := read_any (n := n) (by omega)
  obtain ⟨b, j, rb, j1, j2, hj⟩ := read_any (n := m) (by omega)
  unfold Format.add
  rw [ra, rb]
  unfold Datum.sum
  simp only [signed_f]
  rw [hi (min i j) (by omega), hj (min i j) (by omega)]
  obtain ⟨k, hk⟩ : ∃ k : Nat, min i j = -(k : Int) := ⟨(-(min i j)).toNat, by omega⟩
  have hk2 : k ≤ 1074 := by omega
  rw [hk]
  have e1 : (- -(k : Int)).toNat = k := by omega
  rw [e1]
  have e3 : ((n * 2 ^ k : Nat) : Int) + ((m * 2 ^ k : Nat) : Int) = (((n + m) * 2 ^ k : Nat) : Int) := by rw [Nat.add_mul]; omega
  rw [e3, Int.natAbs_natCast]
  by_cases h0 : n + m = 0
  · rw [h0]
    simp only [Nat.zero_mul, Int.natCast_zero, if_true, Bool.and_self, Option.map_some]
    have hz : ∀ p : Int, double.nearest false 0 p = double.word false 0 := fun p => by unfold Format.nearest; rw [if_pos rfl]
    exact congrArg some ((hz _).trans (hz 0).symm)
  · have hp : 0 < (n + m) * 2 ^ k := Nat.mul_pos (by omega) (Nat.two_pow_pos _)
    rw [if_neg (by omega), decide_eq_false (by omega)]
    simp only [Option.map_some]
    exact congrArg some (nearest_any h0 h hk2)
theorem wd_inj {n m : Nat} (h1 : n < 2 ^ 53) (h2 : m < 2 ^ 53) (h : double.order (wd n) (wd m) = some .eq) : n = m := by
  obtain ⟨a, i, ra, i1, i2, hi⟩ := read_any h1
  obtain ⟨b, j, rb, j1, j2, hj⟩ := read_any h2
  unfold Format.order at h
  rw [ra, rb] at h
  simp only [Datum.order, Option.some.injEq, fcmp_eq, signed_f] at h
  rw [hi (min i j) (by omega), hj (min i j) (by omega)] at h
  have h' : n * 2 ^ (-(min i j)).toNat = m * 2 ^ (-(min i j)).toNat := by exact_mod_cast h
  exact Nat.eq_of_mul_eq_mul_right (Nat.two_pow_pos _) h'
theorem eq_wd {n m : Nat} (h1 : n < 2 ^ 53) (h2 : m < 2 ^ 53) : (double.order (wd n) (wd m) == some .eq) = decide (n = m) := by
  by_cases h : n = m
  · subst h; rw [order_wd h1, decide_eq_true rfl]; rfl
  · rw [decide_eq_false h, beq_eq_false_iff_ne]
    exact fun k => h (wd_inj h1 h2 k)
theorem wN_wd {n : Nat} (h : n ≤ 2 ^ 30) : wN (wd n) = n := by
  by_cases h0 : n = 0
  · subst h0; decide +kernel
  · have hg := wd_gt h
    rw [decide_eq_true (by omega), beq_iff_eq] at hg
    have hc : double.order (wd n) c30 ≠ some .gt := by
      obtain ⟨a, i, ra, i1, i2, hi⟩ := read_any (n := n) (by omega)
      unfold Format.order
      rw [ra, read_c30]
      simp only [Datum.order, Option.some.injEq, ne_eq, fcmp_gt, signed_f]
      rw [hi (min i (-22)) (by omega)]
      have e : (2 : Nat) ^ 52 * 2 ^ ((-22) - min i (-22)).toNat = 2 ^ 30 * 2 ^ (-(min i (-22))).toNat := by
        rw [← Nat.pow_add, ← Nat.pow_add]; congr 1; omega
      rw [e]
      have := Nat.mul_le_mul_right (2 ^ (-(min i (-22))).toNat) h
      omega
    unfold wN
    rw [if_neg hc, if_pos hg, toInt_wd (by omega)]
    rfl
end Go.Proofs.Ytcnecjjgnnkjkaa
namespace Go.Proofs.Ytcnecjjgnnkjkaa
theorem and_low24 (x : Int) : bits .and .i64 x 16777215 = x % 16777216 := by
  unfold bits
  have h1 : ((BitVec.ofInt IntKind.i64.bits x) &&& (BitVec.ofInt IntKind.i64.bits 16777215)).toNat = (BitVec.ofInt 64 x).toNat % 2 ^ 24 := by
    show ((BitVec.ofInt 64 x) &&& (BitVec.ofInt 64 16777215)).toNat = _
    rw [BitVec.toNat_and, show (BitVec.ofInt 64 16777215).toNat = 2 ^ 24 - 1 from by decide, Nat.and_two_pow_sub_one_eq_mod]
  show IntKind.i64.wrap ((((BitVec.ofInt IntKind.i64.bits x) &&& (BitVec.ofInt IntKind.i64.bits 16777215)).toNat : Nat) : Int) = _
  rw [h1, BitVec.toNat_ofInt, IntKind.wrap_i64]
  omega
end Go.Proofs.Ytcnecjjgnnkjkaa
