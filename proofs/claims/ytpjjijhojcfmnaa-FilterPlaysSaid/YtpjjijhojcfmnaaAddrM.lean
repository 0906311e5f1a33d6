/-
  Plain numbers: addresses of 128 bits as pairs of words, their bits, what is cut of them. No condition.
-/
import Derived.Test.YtpjjijhojcfmnaaBits
import Derived.Lib.BitFns
namespace Go.Proofs.Ytpjjijhojcfmnaa
open Go.RowKit
set_option linter.unusedVariables false
set_option linter.unusedSimpArgs false

/-- An address: the high word, the low word. -/
abbrev Ad := Nat × Nat
def Ad.ok (a : Ad) : Prop := a.1 < 2 ^ 64 ∧ a.2 < 2 ^ 64
/-- .. as one number. -/
def Ad.num (a : Ad) : Nat := a.1 * 2 ^ 64 + a.2
theorem Ad.num_lt {a : Ad} (h : a.ok) : a.num < 2 ^ 128 := by unfold Ad.num; have := h.1; have := h.2; omega
theorem Ad.num_inj {a b : Ad} (ha : a.ok) (hb : b.ok) (h : a.num = b.num) : a = b := by
  unfold Ad.num at h; have := ha.2; have := hb.2
  apply Prod.ext <;> omega

/-- A word with its first bits alone. -/
def cutW (x k : Nat) : Nat := x / 2 ^ (64 - k) * 2 ^ (64 - k)
theorem cutW_le (x k : Nat) : cutW x k ≤ x := Nat.div_mul_le_self _ _
theorem cutW_zero {x : Nat} (h : x < 2 ^ 64) : cutW x 0 = 0 := by unfold cutW; rw [Nat.sub_zero, Nat.div_eq_of_lt h]
theorem cutW_all {x k : Nat} (h : 64 ≤ k) : cutW x k = x := by unfold cutW; rw [show 64 - k = 0 from by omega]; simp
theorem nandN_mask (x m : Nat) (hx : x < 2 ^ 64) (hm : m ≤ 64) : nandN x (2 ^ m - 1) = x / 2 ^ m * 2 ^ m := by
  apply Nat.eq_of_testBit_eq
  intro i
  rw [nandN_testBit _ _ hx, Nat.testBit_two_pow_sub_one, Nat.testBit_mul_two_pow, Nat.testBit_div_two_pow]
  by_cases h : m ≤ i
  · have h' : ¬ i < m := by omega
    simp [h, h']
  · have h' : i < m := by omega
    simp [h, h']
/-- What Go's mask is: all ones, shifted to the right. -/
theorem mask_shr (k : Nat) (h : k ≤ 64) : (18446744073709551615 : Int) / 2 ^ k = ((2 ^ (64 - k) - 1 : Nat) : Int) := by
  have e : (2 : Nat) ^ 64 = 2 ^ k * 2 ^ (64 - k) := by rw [← Nat.pow_add]; congr 1; omega
  have hp : 0 < (2 : Nat) ^ k := Nat.pow_pos (by decide)
  have hq : 0 < (2 : Nat) ^ (64 - k) := Nat.pow_pos (by decide)
  have : (18446744073709551615 : Nat) / 2 ^ k = 2 ^ (64 - k) - 1 := by
    have h1 : (18446744073709551615 : Nat) = 2 ^ k * (2 ^ (64 - k) - 1) + (2 ^ k - 1) := by
      rw [Nat.mul_sub, ← e]
      have : 2 ^ k ≤ 2 ^ k * 2 ^ (64 - k) := Nat.le_mul_of_pos_right _ hq
      omega
    rw [h1, Nat.mul_add_div hp, Nat.div_eq_of_lt (by omega), Nat.add_zero]
  rw [← this]; simp

/-- The first n bits of an address. -/
def Ad.cut (a : Ad) (n : Nat) : Ad := (cutW a.1 (min n 64), cutW a.2 (n - 64))
theorem Ad.cut_ok {a : Ad} (h : a.ok) (n : Nat) : (a.cut n).ok := ⟨Nat.lt_of_le_of_lt (cutW_le _ _) h.1, Nat.lt_of_le_of_lt (cutW_le _ _) h.2⟩
/-- One number cut: the low bits gone. -/
def cutN (x n : Nat) : Nat := x / 2 ^ (128 - n) * 2 ^ (128 - n)
theorem Ad.cut_num {a : Ad} (h : a.ok) (n : Nat) : (a.cut n).num = cutN a.num n := by
  unfold Ad.cut Ad.num cutN
  simp only
  rcases Nat.lt_or_ge n 64 with hn | hn
  · rw [show n - 64 = 0 from by omega, cutW_zero h.2, Nat.min_eq_left (by omega), Nat.add_zero]
    unfold cutW
    have e : (2 : Nat) ^ (128 - n) = 2 ^ (64 - n) * 2 ^ 64 := by rw [← Nat.pow_add]; congr 1; omega
    have e2 : (a.1 * 2 ^ 64 + a.2) / 2 ^ (128 - n) = a.1 / 2 ^ (64 - n) := by
      rw [e, Nat.mul_comm (2 ^ (64 - n)), ← Nat.div_div_eq_div_mul]
      congr 1
      have := h.2; omega
    rw [e2, e, Nat.mul_assoc]
  · rw [Nat.min_eq_right hn, cutW_all (Nat.le_refl _)]
    unfold cutW
    rw [show 64 - (n - 64) = 128 - n from by omega]
    have hle : 128 - n ≤ 64 := by omega
    have e : (2 : Nat) ^ 64 = 2 ^ (64 - (128 - n)) * 2 ^ (128 - n) := by rw [← Nat.pow_add]; congr 1; omega
    have hp : 0 < (2 : Nat) ^ (128 - n) := Nat.pow_pos (by decide)
    conv => rhs; rw [e, ← Nat.mul_assoc, Nat.add_comm, Nat.add_mul_div_right _ _ hp, Nat.add_mul]
    rw [Nat.mul_assoc, ← e, Nat.add_comm]

/-- Bit i of an address, the highest first; 0 where there is none. -/
def Ad.bit (a : Ad) (i : Nat) : Nat := if i < 64 then a.1 / 2 ^ (63 - i) % 2 else if i < 128 then a.2 / 2 ^ (127 - i) % 2 else 0
def bitN (x i : Nat) : Nat := x / 2 ^ (127 - i) % 2
theorem Ad.bit_num {a : Ad} (h : a.ok) (i : Nat) (hi : i < 128) : a.bit i = bitN a.num i := by
  unfold Ad.bit Ad.num bitN
  by_cases h1 : i < 64
  · rw [if_pos h1]
    have e : (2 : Nat) ^ (127 - i) = 2 ^ 64 * 2 ^ (63 - i) := by rw [← Nat.pow_add]; congr 1; omega
    rw [e, ← Nat.div_div_eq_div_mul]
    congr 2
    have := h.2; omega
  · rw [if_neg h1, if_pos hi]
    have hp : 0 < (2 : Nat) ^ (127 - i) := Nat.pow_pos (by decide)
    obtain ⟨d, hd⟩ : ∃ d, i - 63 = d + 1 := ⟨i - 64, by omega⟩
    have e : (2 : Nat) ^ 64 = 2 ^ (i - 63) * 2 ^ (127 - i) := by rw [← Nat.pow_add]; congr 1; omega
    have e2 : (a.1 * 2 ^ 64 + a.2) / 2 ^ (127 - i) = a.2 / 2 ^ (127 - i) + a.1 * 2 ^ (i - 63) := by
      rw [e, ← Nat.mul_assoc, Nat.add_comm, Nat.add_mul_div_right _ _ hp]
    rw [e2, hd, Nat.pow_succ, ← Nat.mul_assoc]; omega
theorem bitN_testBit (x i : Nat) : bitN x i = (x.testBit (127 - i)).toNat := by
  unfold bitN; rw [Nat.testBit_eq_decide_div_mod_eq]; rcases Nat.mod_two_eq_zero_or_one (x / 2 ^ (127 - i)) with h | h <;> simp [h]
theorem bitN_le (x i : Nat) : bitN x i ≤ 1 := by unfold bitN; omega
theorem Ad.bit_le (a : Ad) (i : Nat) : a.bit i ≤ 1 := by unfold Ad.bit; split <;> (try split) <;> omega
theorem Ad.bit_out (a : Ad) (i : Nat) (h : 128 ≤ i) : a.bit i = 0 := by unfold Ad.bit; rw [if_neg (by omega), if_neg (by omega)]

/-- A prefix: an address, and how many bits of it. -/
abbrev Pf := Ad × Int
def Pf.right (p : Pf) : Prop := 0 ≤ p.2 ∧ p.2 ≤ 128 ∧ p.1.cut p.2.toNat = p.1
instance (p : Pf) : Decidable p.right := by unfold Pf.right; infer_instance
def Pf.has (p : Pf) (a : Ad) : Prop := p.right ∧ a.cut p.2.toNat = p.1
instance (p : Pf) (a : Ad) : Decidable (p.has a) := by unfold Pf.has; infer_instance

theorem testBit_cutN (x n i : Nat) : (cutN x n).testBit i = (decide (128 - n ≤ i) && x.testBit i) := by
  unfold cutN
  rw [Nat.testBit_mul_two_pow, Nat.testBit_div_two_pow]
  by_cases h : 128 - n ≤ i
  · simp [h]
  · simp [h]
/-- Two numbers of 128 bits are one if all bits are. -/
theorem bits_ext {x y : Nat} (hx : x < 2 ^ 128) (hy : y < 2 ^ 128) (h : ∀ i, i < 128 → bitN x i = bitN y i) : x = y := by
  apply Nat.eq_of_testBit_eq
  intro i
  by_cases hi : i < 128
  · have := h (127 - i) (by omega)
    rw [bitN_testBit, bitN_testBit, show 127 - (127 - i) = i from by omega] at this
    cases h1 : x.testBit i <;> cases h2 : y.testBit i <;> simp_all
  · rw [Nat.testBit_lt_two_pow (Nat.lt_of_lt_of_le hx (Nat.pow_le_pow_right (by decide) (by omega))), Nat.testBit_lt_two_pow (Nat.lt_of_lt_of_le hy (Nat.pow_le_pow_right (by decide) (by omega)))]
theorem bitN_cut (x n i : Nat) (hn : n ≤ 128) (hi : i < 128) : bitN (cutN x n) i = if i < n then bitN x i else 0 := by
  rw [bitN_testBit, bitN_testBit, testBit_cutN]
  by_cases h : i < n
  · rw [if_pos h]; have : 128 - n ≤ 127 - i := by omega
    simp [this]
  · rw [if_neg h]; have : ¬ 128 - n ≤ 127 - i := by omega
    simp [this]
theorem Ad.ext_bits {a b : Ad} (ha : a.ok) (hb : b.ok) (h : ∀ i, i < 128 → a.bit i = b.bit i) : a = b :=
  Ad.num_inj ha hb (bits_ext (Ad.num_lt ha) (Ad.num_lt hb) fun i hi => by rw [← Ad.bit_num ha i hi, ← Ad.bit_num hb i hi]; exact h i hi)
theorem Ad.bit_cut {a : Ad} (ha : a.ok) (n i : Nat) (hn : n ≤ 128) (hi : i < 128) : (a.cut n).bit i = if i < n then a.bit i else 0 := by
  rw [Ad.bit_num (Ad.cut_ok ha n) i hi, Ad.cut_num ha, bitN_cut _ _ _ hn hi]
  split
  · rw [Ad.bit_num ha i hi]
  · rfl
theorem Ad.cut_cut {a : Ad} (ha : a.ok) (n m : Nat) (hn : n ≤ 128) (hm : m ≤ 128) : (a.cut n).cut m = a.cut (min n m) := by
  apply Ad.ext_bits (Ad.cut_ok (Ad.cut_ok ha n) m) (Ad.cut_ok ha _)
  intro i hi
  rw [Ad.bit_cut (Ad.cut_ok ha n) m i hm hi, Ad.bit_cut ha n i hn hi, Ad.bit_cut ha _ i (by omega) hi]
  by_cases h1 : i < m <;> by_cases h2 : i < n <;> simp [h1, h2, show (i < min n m) ↔ (i < n ∧ i < m) from by omega]
theorem Ad.cut_eq {a b : Ad} (ha : a.ok) (hb : b.ok) (n : Nat) (hn : n ≤ 128) : a.cut n = b.cut n ↔ ∀ i, i < n → a.bit i = b.bit i := by
  constructor
  · intro h i hi
    have h1 := Ad.bit_cut ha n i hn (by omega)
    have h2 := Ad.bit_cut hb n i hn (by omega)
    rw [if_pos hi] at h1 h2
    rw [← h1, ← h2, h]
  · intro h
    apply Ad.ext_bits (Ad.cut_ok ha n) (Ad.cut_ok hb n)
    intro i hi
    rw [Ad.bit_cut ha n i hn hi, Ad.bit_cut hb n i hn hi]
    split
    · exact h i ‹_›
    · rfl
/-- n is how many bits two have in common. -/
def IsCom (a b : Ad) (n : Nat) : Prop := n ≤ 128 ∧ (∀ i, i < n → a.bit i = b.bit i) ∧ (n < 128 → a.bit n ≠ b.bit n)
theorem IsCom.unique {a b : Ad} {n m : Nat} (h : IsCom a b n) (k : IsCom a b m) : n = m := by
  rcases Nat.lt_trichotomy n m with hlt | he | hlt
  · exact absurd (k.2.1 n hlt) (h.2.2 (by have := k.1; omega))
  · exact he
  · exact absurd (h.2.1 m hlt) (k.2.2 (by have := h.1; omega))
theorem IsCom.symm {a b : Ad} {n : Nat} (h : IsCom a b n) : IsCom b a n := ⟨h.1, fun i hi => (h.2.1 i hi).symm, fun hn => (h.2.2 hn).symm⟩
theorem com_exists (a b : Ad) : ∃ n, IsCom a b n := by
  have : ∀ k, k ≤ 128 → (∃ n, IsCom a b n) ∨ ∀ i, i < k → a.bit i = b.bit i := by
    intro k
    induction k with
    | zero => intro _; exact .inr fun i hi => by omega
    | succ k ih =>
      intro hk
      rcases ih (by omega) with h | h
      · exact .inl h
      · by_cases e : a.bit k = b.bit k
        · exact .inr fun i hi => by rcases Nat.lt_succ_iff_lt_or_eq.1 hi with h' | h'; exact h i h'; subst h'; exact e
        · exact .inl ⟨k, by omega, h, fun _ => e⟩
  rcases this 128 (Nat.le_refl _) with h | h
  · exact h
  · exact ⟨128, Nat.le_refl _, h, fun h => by omega⟩
noncomputable def Ad.com (a b : Ad) : Nat := Classical.choose (com_exists a b)
theorem Ad.com_is (a b : Ad) : IsCom a b (a.com b) := Classical.choose_spec (com_exists a b)
theorem Ad.com_eq {a b : Ad} {n : Nat} (h : IsCom a b n) : a.com b = n := (Ad.com_is a b).unique h

/-- The greatest bit of a word that is not 0. -/
theorem top_bit (x : Nat) (h0 : x ≠ 0) (hx : x < 2 ^ 64) : ∃ k, k < 64 ∧ Lib.bitLen x = k + 1 ∧ x.testBit k = true ∧ ∀ j, k < j → x.testBit j = false := by
  obtain ⟨k, hk⟩ : ∃ k, k = Nat.log2 x := ⟨_, rfl⟩
  have h1 : 2 ^ k ≤ x := by rw [hk]; exact Nat.log2_self_le h0
  have h2 : x < 2 ^ (k + 1) := by rw [hk]; exact Nat.lt_log2_self
  have hk64 : k < 64 := by
    rcases Nat.lt_or_ge k 64 with h | h
    · exact h
    · have := Nat.pow_le_pow_right (n := 2) (by decide) h; omega
  have hq : x / 2 ^ k = 1 := by
    have hp : 0 < 2 ^ k := Nat.pow_pos (by decide)
    have a1 : x / 2 ^ k < 2 := by rw [Nat.div_lt_iff_lt_mul hp, Nat.mul_comm]; rw [Nat.pow_succ] at h2; omega
    have a2 : 1 ≤ x / 2 ^ k := by rw [Nat.le_div_iff_mul_le hp]; omega
    omega
  refine ⟨k, hk64, ?_, ?_, ?_⟩
  · rw [Lib.bitLen_shift k x h1 hx, hq]; rfl
  · rw [Nat.testBit_eq_decide_div_mod_eq, hq]; rfl
  · intro j hj
    exact Nat.testBit_lt_two_pow (Nat.lt_of_lt_of_le h2 (Nat.pow_le_pow_right (by decide) (by omega)))
theorem word_bit_eq (x y k : Nat) : x / 2 ^ k % 2 = y / 2 ^ k % 2 ↔ (x ^^^ y).testBit k = false := by
  rw [Nat.testBit_xor, Nat.testBit_eq_decide_div_mod_eq, Nat.testBit_eq_decide_div_mod_eq]
  rcases Nat.mod_two_eq_zero_or_one (x / 2 ^ k) with h | h <;> rcases Nat.mod_two_eq_zero_or_one (y / 2 ^ k) with h' | h' <;> simp [h, h']
theorem com_high {a b : Ad} (ha : a.ok) (hb : b.ok) (h : a.1 ^^^ b.1 ≠ 0) : IsCom a b (64 - Lib.bitLen (a.1 ^^^ b.1)) ∧ 64 - Lib.bitLen (a.1 ^^^ b.1) < 64 := by
  obtain ⟨k, hk, h1, h2, h3⟩ := top_bit _ h (Nat.xor_lt_two_pow ha.1 hb.1)
  rw [h1]
  refine ⟨⟨by omega, fun i hi => ?_, fun _ => ?_⟩, by omega⟩
  · unfold Ad.bit; rw [if_pos (by omega), if_pos (by omega), word_bit_eq]; exact h3 _ (by omega)
  · unfold Ad.bit; rw [if_pos (by omega), if_pos (by omega)]
    intro e
    rw [word_bit_eq, show 63 - (64 - (k + 1)) = k from by omega, h2] at e
    exact absurd e (by decide)
theorem com_low {a b : Ad} (ha : a.ok) (hb : b.ok) (h0 : a.1 ^^^ b.1 = 0) : IsCom a b (64 + (64 - Lib.bitLen (a.2 ^^^ b.2))) := by
  have hz : ∀ i, i < 64 → a.bit i = b.bit i := by
    intro i hi; unfold Ad.bit; rw [if_pos hi, if_pos hi, word_bit_eq, h0]; simp
  by_cases h : a.2 ^^^ b.2 = 0
  · rw [h, show Lib.bitLen 0 = 0 from rfl]
    refine ⟨by omega, fun i hi => ?_, fun h => by omega⟩
    by_cases hi' : i < 64
    · exact hz i hi'
    · unfold Ad.bit; rw [if_neg hi', if_neg hi', if_pos (by omega), if_pos (by omega), word_bit_eq, h]; simp
  · obtain ⟨k, hk, h1, h2, h3⟩ := top_bit _ h (Nat.xor_lt_two_pow ha.2 hb.2)
    rw [h1]
    refine ⟨by omega, fun i hi => ?_, fun _ => ?_⟩
    · by_cases hi' : i < 64
      · exact hz i hi'
      · unfold Ad.bit; rw [if_neg hi', if_neg hi', if_pos (by omega), if_pos (by omega), word_bit_eq]; exact h3 _ (by omega)
    · have e1 : ¬ 64 + (64 - (k + 1)) < 64 := by omega
      have e2 : 64 + (64 - (k + 1)) < 128 := by omega
      unfold Ad.bit; simp only [if_neg e1, if_pos e2]
      intro e
      rw [word_bit_eq, show 127 - (64 + (64 - (k + 1))) = k from by omega, h2] at e
      exact absurd e (by decide)
end Go.Proofs.Ytpjjijhojcfmnaa
