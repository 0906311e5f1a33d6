/-
  Whole numbers as words of double precision, there and back. Plain arithmetic. No condition but that they are small.
-/
import Ieee.Arith
namespace Go.Proofs.Ytcnecjjgnnkjkaa
open Ieee
set_option maxRecDepth 100000

theorem dbl_signWeight : double.signWeight = 2 ^ 63 := by rfl
theorem dbl_binade : double.binade = 2 ^ 52 := by rfl
theorem dbl_infRung : double.infRung = 2047 * 2 ^ 52 := by rfl
theorem dbl_least : double.leastPlace = -1074 := by rfl
theorem dbl_frac : double.fractionBits = 52 := by rfl

/-- What a normal rung stands for. -/
theorem read_rung {e k : Nat} (h1 : 2 ^ 52 ≤ k) (h2 : k < 2 ^ 53) (he : e + 2 ≤ 2046) :
    double.read (e * 2 ^ 52 + k) = .number false k (-1074 + (e : Int)) := by
  unfold Format.read
  rw [dbl_signWeight, dbl_binade, dbl_infRung, dbl_least]
  have r1 : (e * 2 ^ 52 + k) / 2 ^ 63 % 2 = 0 := by
    rw [Nat.div_eq_of_lt (by omega)]
  have r2 : (e * 2 ^ 52 + k) % 2 ^ 63 = e * 2 ^ 52 + k := Nat.mod_eq_of_lt (by omega)
  have r3 : (e * 2 ^ 52 + k) % 2 ^ 52 = k - 2 ^ 52 := by
    have : e * 2 ^ 52 + k = (k - 2 ^ 52) + 2 ^ 52 * (e + 1) := by omega
    rw [this, Nat.add_mul_mod_self_left, Nat.mod_eq_of_lt (by omega)]
  have r4 : (e * 2 ^ 52 + k) / 2 ^ 52 = e + 1 := by
    have : e * 2 ^ 52 + k = (k - 2 ^ 52) + 2 ^ 52 * (e + 1) := by omega
    rw [this, Nat.add_mul_div_left _ _ (by decide), Nat.div_eq_of_lt (by omega), Nat.zero_add]
  simp only [r2]
  rw [r1, r3, r4, if_neg (by omega), if_pos (by omega)]
  have e1 : 2 ^ 52 + (k - 2 ^ 52) = k := by omega
  rw [e1]
  simp
theorem cut_even_none (neg : Bool) (n : Nat) : Toward.even.cut neg n 0 = n := by
  unfold Toward.cut
  simp [Nat.mod_one]
theorem shl_range {n : Nat} (h0 : n ≠ 0) (h : n < 2 ^ 53) : 2 ^ 52 ≤ n <<< (52 - n.log2) ∧ n <<< (52 - n.log2) < 2 ^ 53 ∧ n.log2 ≤ 52 := by
  have a := Nat.log2_self_le h0
  have b := Nat.lt_log2_self (n := n)
  have c : n.log2 < 53 := (Nat.log2_lt h0).2 h
  rw [Nat.shiftLeft_eq]
  refine ⟨?_, ?_, by omega⟩
  · calc 2 ^ 52 = 2 ^ n.log2 * 2 ^ (52 - n.log2) := by rw [← Nat.pow_add]; congr 1; omega
      _ ≤ n * 2 ^ (52 - n.log2) := Nat.mul_le_mul_right _ a
  · calc n * 2 ^ (52 - n.log2) < 2 ^ (n.log2 + 1) * 2 ^ (52 - n.log2) := Nat.mul_lt_mul_of_pos_right b (Nat.two_pow_pos _)
      _ = 2 ^ 53 := by rw [← Nat.pow_add]; congr 1; omega
/-- The word of a whole number. -/
def wd (n : Nat) : Nat := double.write (.number false n 0)
theorem wd_zero : wd 0 = 0 := by rfl
theorem wd_is {n : Nat} (h0 : n ≠ 0) (h : n < 2 ^ 53) : wd n = (n.log2 + 1022) * 2 ^ 52 + n <<< (52 - n.log2) := by
  obtain ⟨a, b, c⟩ := shl_range h0 h
  have hk : Toward.even.cut false (n <<< (52 - n.log2)) 0 = n <<< (52 - n.log2) := cut_even_none _ _
  generalize hK : n <<< (52 - n.log2) = K at a b hk
  show double.nearest false n 0 = _
  unfold Format.nearest
  rw [if_neg h0]
  have l1 : max (0 + (n.log2 : Int) - (double.fractionBits : Int)) (-1074) = (n.log2 : Int) - 52 := by
    rw [dbl_frac]; omega
  simp only [dbl_least, dbl_binade, dbl_infRung]
  simp only [l1]
  have l2 : ((0 : Int) - ((n.log2 : Int) - 52)).toNat = 52 - n.log2 := by omega
  have l3 : ((n.log2 : Int) - 52 - 0).toNat = 0 := by omega
  have l4 : ((n.log2 : Int) - 52 - -1074).toNat = n.log2 + 1022 := by omega
  rw [l2, l3, l4, hK, hk]
  unfold Format.word
  rw [if_neg (by decide), Nat.min_eq_left (by omega)]
/-- There and back. -/
theorem read_wd {n : Nat} (h0 : n ≠ 0) (h : n < 2 ^ 53) : double.read (wd n) = .number false (n <<< (52 - n.log2)) ((n.log2 : Int) - 52) := by
  obtain ⟨a, b, c⟩ := shl_range h0 h
  rw [wd_is h0 h, read_rung a b (by omega)]
  have e : (-1074 : Int) + ((n.log2 + 1022 : Nat) : Int) = (n.log2 : Int) - 52 := by omega
  rw [e]
theorem read_wd0 : double.read (wd 0) = .number false 0 (-1074) := by rfl
theorem cut_zero (neg : Bool) (n drop : Nat) : Toward.zero.cut neg n drop = n / 2 ^ min drop (n.log2 + 2) := by
  unfold Toward.cut
  simp [Nat.shiftLeft_eq]
theorem cut_down (n drop : Nat) : Toward.down.cut false n drop = n / 2 ^ min drop (n.log2 + 2) := by
  unfold Toward.cut
  simp [Nat.shiftLeft_eq]
/-- What is dropped whole is dropped. -/
theorem cut_div (n drop : Nat) : n / 2 ^ min drop (n.log2 + 2) = n / 2 ^ drop := by
  by_cases h : drop ≤ n.log2 + 2
  · rw [Nat.min_eq_left h]
  · rw [Nat.min_eq_right (by omega)]
    have b := Nat.lt_log2_self (n := n)
    rw [Nat.div_eq_of_lt (Nat.lt_of_lt_of_le b (Nat.pow_le_pow_right (by decide) (by omega))), Nat.div_eq_of_lt (Nat.lt_of_lt_of_le b (Nat.pow_le_pow_right (by decide) (by omega)))]
/-- The whole number that a word stands for. -/
theorem toInt_wd {n : Nat} (h : n < 2 ^ 53) : (double.read (wd n)).toInt .zero = some (n : Int) := by
  by_cases h0 : n = 0
  · subst h0; rfl
  · obtain ⟨a, b, c⟩ := shl_range h0 h
    rw [read_wd h0 h]
    unfold Datum.toInt Datum.integral
    simp only [cut_zero, cut_div]
    have e1 : ((n.log2 : Int) - 52).toNat = 0 := by omega
    have e2 : (-((n.log2 : Int) - 52)).toNat = 52 - n.log2 := by omega
    rw [e1, e2, Nat.shiftLeft_zero, Nat.shiftLeft_eq, Nat.mul_div_cancel _ (Nat.two_pow_pos _)]
    simp [signed]
end Go.Proofs.Ytcnecjjgnnkjkaa
