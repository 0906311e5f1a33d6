/-
  Sums and quotients of whole numbers' words that the laws ask for. Plain arithmetic. No condition but that they are small.
-/
import Derived.Test.YtcnecjjgnnkjkaaRefShares
import Derived.WalkLawsBesides
namespace Go.Proofs.Ytcnecjjgnnkjkaa
open Ieee
set_option maxRecDepth 100000
set_option linter.unusedSimpArgs false

theorem foi (n : Nat) : floatOfInt .f64 (n : Int) = wd n := by
  show double.write (.number (decide ((n : Int) < 0)) (n : Int).natAbs 0) = _
  rw [decide_eq_false (by omega), Int.natAbs_natCast]; rfl
theorem order_wd {n : Nat} (h : n < 2 ^ 53) : double.order (wd n) (wd n) = some .eq := by
  rw [ord_self]
  by_cases h0 : n = 0
  · subst h0; decide +kernel
  · rw [read_wd h0 h]; rfl
/-- The word of 1. -/
def c1f : Nat := 4607182418800017408
theorem c1_wd : wd 1 = c1f := by decide +kernel
theorem read_c1 : double.read c1f = .number false (2 ^ 52) (-52) := by decide +kernel
theorem cut_exact (a d : Nat) (ha : a ≠ 0) : Toward.even.cut false (a * 2 ^ d) d = a := by
  have hp : 0 < 2 ^ d := Nat.two_pow_pos _
  have hl : d ≤ (a * 2 ^ d).log2 + 2 := by
    have : d ≤ (a * 2 ^ d).log2 := (Nat.le_log2 (Nat.mul_ne_zero ha (by omega))).2 (Nat.le_mul_of_pos_left _ (by omega))
    omega
  unfold Toward.cut
  rw [Nat.min_eq_left hl, Nat.one_shiftLeft]
  simp only [Nat.mul_mod_left, Nat.mul_div_cancel _ hp]
  have h1 : ¬ 2 ^ d < 2 * 0 := by omega
  have h2 : (2 ^ d == 2 * 0) = false := by rw [beq_eq_false_iff_ne]; omega
  simp [h2]
theorem log2_shift (a d : Nat) (ha : a ≠ 0) : (a * 2 ^ d).log2 = a.log2 + d := by
  have hp : 0 < 2 ^ d := Nat.two_pow_pos _
  have hn : a * 2 ^ d ≠ 0 := Nat.mul_ne_zero ha (by omega)
  have h1 : a.log2 + d ≤ (a * 2 ^ d).log2 := (Nat.le_log2 hn).2 (by rw [Nat.pow_add]; exact Nat.mul_le_mul_right _ (Nat.log2_self_le ha))
  have h2 : (a * 2 ^ d).log2 < a.log2 + 1 + d := (Nat.log2_lt hn).2 (by rw [Nat.pow_add]; exact Nat.mul_lt_mul_of_pos_right Nat.lt_log2_self hp)
  omega
/-- A number written from a finer place. -/
theorem nearest_fine {q k : Nat} (h0 : q ≠ 0) (h : q < 2 ^ 53) (hk : 52 ≤ k) (hk2 : k ≤ 200) : double.nearest false (q * 2 ^ k) (-(k : Int)) = wd q := by
  obtain ⟨a, b, c⟩ := shl_range h0 h
  rw [wd_is h0 h]
  rw [Nat.shiftLeft_eq] at a b ⊢
  unfold Format.nearest
  rw [if_neg (Nat.mul_ne_zero h0 (by have := Nat.two_pow_pos k; omega))]
  have l1 : max (-(k : Int) + ((q * 2 ^ k).log2 : Int) - (double.fractionBits : Int)) (-1074) = (q.log2 : Int) - 52 := by
    rw [dbl_frac, log2_shift _ _ h0]; omega
  simp only [dbl_least, dbl_binade, dbl_infRung]
  simp only [l1]
  have l2 : (-(k : Int) - ((q.log2 : Int) - 52)).toNat = 0 := by omega
  have l3 : ((q.log2 : Int) - 52 - -(k : Int)).toNat = k + q.log2 - 52 := by omega
  have l4 : ((q.log2 : Int) - 52 - -1074).toNat = q.log2 + 1022 := by omega
  rw [l2, l3, l4, Nat.shiftLeft_zero]
  have e : q * 2 ^ k = (q * 2 ^ (52 - q.log2)) * 2 ^ (k + q.log2 - 52) := by
    rw [Nat.mul_assoc, ← Nat.pow_add]; congr 2; omega
  rw [e, cut_exact _ _ (by omega)]
  unfold Format.word
  rw [if_neg (by decide), Nat.min_eq_left (by omega)]
theorem shl_num {n : Nat} (c : n.log2 ≤ 52) : (n <<< (52 - n.log2)) * 2 ^ n.log2 = n * 2 ^ 52 := by
  rw [Nat.shiftLeft_eq, Nat.mul_assoc, ← Nat.pow_add]; congr 2; omega
theorem add_one {n : Nat} (h : n ≤ 2 ^ 30) : floatBits .add .f64 (wd n) c1f = some (wd (n + 1)) := by
  show double.add (wd n) c1f = _
  by_cases h0 : n = 0
  · subst h0; decide +kernel
  · obtain ⟨a, b, c⟩ := shl_range h0 (by omega)
    have hs := shl_num c
    unfold Format.add
    rw [read_wd h0 (by omega), read_c1]
    unfold Datum.sum
    have hb : min ((n.log2 : Int) - 52) (-52) = -52 := by omega
    simp only [hb, signed_f]
    have e1 : ((n.log2 : Int) - 52 - -52).toNat = n.log2 := by omega
    have e2 : ((-52 : Int) - -52).toNat = 0 := by omega
    rw [e1, e2, hs]
    have e3 : ((n * 2 ^ 52 : Nat) : Int) + ((2 ^ 52 * 2 ^ 0 : Nat) : Int) = (((n + 1) * 2 ^ 52 : Nat) : Int) := by omega
    rw [e3, if_neg (by omega), decide_eq_false (by omega), Int.natAbs_natCast]
    simp only [Option.map_some]
    show some (double.nearest false ((n + 1) * 2 ^ 52) (-52)) = _
    rw [show ((-52 : Int)) = -((52 : Nat) : Int) from rfl, nearest_fine (by omega) (by omega) (by decide) (by decide)]
theorem pos_word {r : Nat} (h0 : 0 < r) (h : r ≤ 2047 * 2 ^ 52) : double.order r 0 = some .gt := by
  unfold Format.order
  rw [read_0]
  have r1 : r / 2 ^ 63 % 2 = 0 := by rw [Nat.div_eq_of_lt (by omega)]
  have r2 : r % 2 ^ 63 = r := Nat.mod_eq_of_lt (by omega)
  unfold Format.read
  simp only [dbl_signWeight, dbl_binade, dbl_infRung, dbl_least, r1, r2]
  have key : ∀ (m : Nat) (i : Int), 0 < m → Datum.order (.number false m i) (.number false 0 (-1074)) = some .gt := by
    intro m i hm
    simp only [Datum.order, Option.some.injEq, fcmp_gt, signed_f, Nat.zero_mul]
    have : 0 < m * 2 ^ (i - min i (-1074)).toNat := Nat.mul_pos hm (Nat.two_pow_pos _)
    generalize m * 2 ^ (i - min i (-1074)).toNat = q at this ⊢
    omega
  by_cases h1 : r < 2 ^ 52
  · rw [if_pos h1]; exact key _ _ h0
  · rw [if_neg h1]
    by_cases h2 : r < 2047 * 2 ^ 52
    · rw [if_pos h2]; exact key _ _ (by omega)
    · rw [if_neg h2, if_pos (by omega)]; rfl
theorem nearest_pos {mag : Nat} {place : Int} (h0 : mag ≠ 0) (hp : -1000 ≤ place) : 0 < double.nearest false mag place ∧ double.nearest false mag place ≤ 2047 * 2 ^ 52 := by
  unfold Format.nearest
  rw [if_neg h0]
  simp only [dbl_least, dbl_binade, dbl_infRung, dbl_frac, Format.word]
  rw [if_neg (by decide)]
  refine ⟨?_, Nat.min_le_right _ _⟩
  generalize Toward.even.cut false _ _ = kept
  have : 1 ≤ (max (place + (mag.log2 : Int) - ((52 : Nat) : Int)) (-1074) - -1074).toNat := by omega
  generalize (max (place + (mag.log2 : Int) - ((52 : Nat) : Int)) (-1074) - -1074).toNat = q at this ⊢
  omega
theorem one_div {m : Nat} (h0 : m ≠ 0) (h : m < 2 ^ 53) : ∃ y, floatBits .quo .f64 c1f (wd m) = some y ∧ double.order y 0 = some .gt := by
  obtain ⟨a, b, c⟩ := shl_range h0 h
  show ∃ y, double.div c1f (wd m) = some y ∧ _
  unfold Format.div
  rw [read_wd h0 h, read_c1]
  generalize m <<< (52 - m.log2) = n at a b ⊢
  have hl : n.log2 = 52 := by
    have h1 : 52 ≤ n.log2 := (Nat.le_log2 (by omega)).2 a
    have h2 : n.log2 < 53 := (Nat.log2_lt (by omega)).2 b
    omega
  unfold Datum.quotient
  simp only
  rw [if_neg (by omega)]
  simp only [Option.map_some]
  refine ⟨_, rfl, ?_⟩
  have hd : double.fractionBits + 2 + n.log2 - (2 ^ 52 : Nat).log2 = 54 := by rw [hl, dbl_frac, Nat.log2_two_pow]
  rw [hd]
  have hq : 0 < (2 ^ 52 <<< 54) / n := by
    rw [Nat.shiftLeft_eq]
    exact Nat.div_pos (by omega) (by omega)
  obtain ⟨p1, p2⟩ := nearest_pos (mag := 2 * ((2 ^ 52 <<< 54) / n) + ((2 ^ 52 <<< 54) % n != 0).toNat) (place := -52 - ((m.log2 : Int) - 52) - ((54 : Nat) : Int) - 1) (by omega) (by omega)
  exact pos_word p1 p2
end Go.Proofs.Ytcnecjjgnnkjkaa
