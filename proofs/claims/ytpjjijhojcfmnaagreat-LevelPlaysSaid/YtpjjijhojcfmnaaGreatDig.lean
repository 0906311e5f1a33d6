/-
  Plain numbers: the base 16 digits of a word, and its bits, when one is turned. No condition.
-/
namespace Go.Proofs.YtpjjijhojcfmnaaGreat
set_option linter.unusedVariables false
set_option linter.unusedSimpArgs false

/-- Digit j, base 16. -/
def dig (x j : Nat) : Nat := x / 16 ^ j % 16

theorem dig_le (x j : Nat) : dig x j ≤ 15 := by unfold dig; omega
theorem dig_lt (x j : Nat) : dig x j < 16 := by unfold dig; omega
theorem dig_zero (j : Nat) : dig 0 j = 0 := by simp [dig]

theorem pow_split {j k : Nat} (h : j ≤ k) : (16 : Nat) ^ k = 16 ^ (k - j) * 16 ^ j := by rw [← Nat.pow_add]; congr 1; omega

theorem dig_add_low {x k j : Nat} (h : j < k) : dig (x + 16 ^ k) j = dig x j := by
  unfold dig
  rw [pow_split (Nat.le_of_lt h), Nat.add_mul_div_right _ _ (Nat.pow_pos (by decide))]
  obtain ⟨d, hd⟩ : ∃ d, k - j = d + 1 := ⟨k - j - 1, by omega⟩
  rw [hd, Nat.pow_succ]; omega
theorem dig_add_same (x k : Nat) : dig (x + 16 ^ k) k = (dig x k + 1) % 16 := by
  unfold dig
  have : (x + 16 ^ k) / 16 ^ k = x / 16 ^ k + 1 := by
    have := Nat.add_mul_div_right x 1 (z := 16 ^ k) (Nat.pow_pos (by decide)); simpa using this
  rw [this]; omega
theorem dig_add_high {x k j : Nat} (h : k < j) (hd : dig x k < 15) : dig (x + 16 ^ k) j = dig x j := by
  unfold dig at *
  have e : (x + 16 ^ k) / 16 ^ k = x / 16 ^ k + 1 := by
    have := Nat.add_mul_div_right x 1 (z := 16 ^ k) (Nat.pow_pos (by decide)); simpa using this
  have hj : (16 : Nat) ^ j = 16 ^ k * (16 * 16 ^ (j - k - 1)) := by
    rw [← Nat.mul_assoc, ← Nat.pow_succ, ← Nat.pow_add]; congr 1; omega
  rw [hj, ← Nat.div_div_eq_div_mul, ← Nat.div_div_eq_div_mul, ← Nat.div_div_eq_div_mul, ← Nat.div_div_eq_div_mul, e]
  have : (x / 16 ^ k + 1) / 16 = x / 16 ^ k / 16 := by omega
  rw [this]
theorem dig_add {x k : Nat} (j : Nat) (hd : dig x k < 15) : dig (x + 16 ^ k) j = if j = k then dig x k + 1 else dig x j := by
  split
  · subst j; rw [dig_add_same]; omega
  · rcases Nat.lt_or_gt_of_ne ‹¬ j = k› with h | h
    · exact dig_add_low h
    · exact dig_add_high h hd
theorem dig_pos_le {x k : Nat} (hd : 0 < dig x k) : 16 ^ k ≤ x := by
  unfold dig at hd
  rcases Nat.lt_or_ge x (16 ^ k) with h | h
  · rw [Nat.div_eq_of_lt h] at hd; omega
  · exact h
theorem dig_sub {x k : Nat} (j : Nat) (hd : 0 < dig x k) : dig (x - 16 ^ k) j = if j = k then dig x k - 1 else dig x j := by
  have hle := dig_pos_le hd
  have hk : dig (x - 16 ^ k) k < 15 := by
    have := dig_add_same (x - 16 ^ k) k
    rw [Nat.sub_add_cancel hle] at this
    have := dig_le (x - 16 ^ k) k
    omega
  have := dig_add (x := x - 16 ^ k) j hk
  rw [Nat.sub_add_cancel hle] at this
  have h2 := dig_add (x := x - 16 ^ k) k hk
  rw [Nat.sub_add_cancel hle] at h2
  simp only [if_true] at h2
  split at this <;> rename_i e
  · subst e; rw [if_pos rfl]; omega
  · rw [if_neg e]; omega
theorem dig_add_bound {x k n : Nat} (hx : x < 16 ^ n) (hk : k < n) (hd : dig x k < 15) : x + 16 ^ k < 16 ^ n := by
  unfold dig at hd
  have hn : (16 : Nat) ^ n = 16 ^ k * (16 * 16 ^ (n - k - 1)) := by
    rw [← Nat.mul_assoc, ← Nat.pow_succ, ← Nat.pow_add]; congr 1; omega
  have hp : 0 < (16 : Nat) ^ k := Nat.pow_pos (by decide)
  rw [hn] at hx ⊢
  have h1 : x / 16 ^ k < 16 * 16 ^ (n - k - 1) := by rw [Nat.div_lt_iff_lt_mul hp, Nat.mul_comm]; exact hx
  have h2 : x / 16 ^ k + 1 < 16 * 16 ^ (n - k - 1) := by
    have hq : 0 < (16 : Nat) ^ (n - k - 1) := Nat.pow_pos (by decide)
    omega
  have h3 : (x + 16 ^ k) / 16 ^ k = x / 16 ^ k + 1 := by
    have := Nat.add_mul_div_right x 1 (z := 16 ^ k) hp; simpa using this
  rw [← h3, Nat.div_lt_iff_lt_mul hp] at h2
  rw [Nat.mul_comm]; exact h2
end Go.Proofs.YtpjjijhojcfmnaaGreat
