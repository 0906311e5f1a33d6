/-
  Plain numbers: the longer prefixes of one, in order. No condition.
-/
import Derived.Test.YtcnecjjgnnkjkaaGRef
namespace Go.Proofs.Ytcnecjjgnnkjkaa
open Go.RowKit
set_option linter.unusedVariables false
set_option linter.unusedSimpArgs false

theorem sub_pow (a b : Nat) (h : b ≤ a) : (2 : Nat) ^ a = 2 ^ (a - b) * 2 ^ b := by rw [← Nat.pow_add]; congr 1; omega
/-- A number of 128 bits as an address. -/
def Ad.of (x : Nat) : Ad := (x / 2 ^ 64, x % 2 ^ 64)
theorem Ad.of_ok {x : Nat} (h : x < 2 ^ 128) : (Ad.of x).ok := ⟨by show x / 2 ^ 64 < 2 ^ 64; omega, Nat.mod_lt _ (by decide)⟩
theorem Ad.of_num (x : Nat) : (Ad.of x).num = x := by unfold Ad.of Ad.num; simp only; omega
theorem Ad.num_of {a : Ad} (h : a.ok) : Ad.of a.num = a := by
  have := h.2; unfold Ad.of Ad.num; apply Prod.ext <;> simp only <;> omega
theorem Ad.cut_self {a : Ad} (h : a.ok) (n : Nat) : a.cut n = a ↔ a.num % 2 ^ (128 - n) = 0 := by
  have e := Ad.cut_num h n
  have hd : a.num / 2 ^ (128 - n) * 2 ^ (128 - n) + a.num % 2 ^ (128 - n) = a.num := by rw [Nat.mul_comm]; exact Nat.div_add_mod _ _
  constructor
  · intro k; rw [k] at e; unfold cutN at e; omega
  · intro k; apply Ad.num_inj (Ad.cut_ok h n) h; rw [e]; unfold cutN; omega
theorem Ad.cut_is {a b : Ad} (ha : a.ok) (hb : b.ok) (n : Nat) : a.cut n = b ↔ cutN a.num n = b.num := by
  rw [← Ad.cut_num ha]
  exact ⟨fun h => by rw [h], fun h => Ad.num_inj (Ad.cut_ok ha n) hb h⟩
theorem pf_lt_num {p q : Pf} (hp : p.1.ok) (hq : q.1.ok) (h : p.1.num < q.1.num) : p.lt q := by
  have := hp.2; have := hq.2; unfold Ad.num at h; unfold Pf.lt; omega
/-- What is cut, and the bits behind: no overlap. -/
theorem or_add {x y k : Nat} (hx : x % 2 ^ k = 0) (hy : y < 2 ^ k) : x ||| y = x + y := by
  have e : x = 2 ^ k * (x / 2 ^ k) := by have := Nat.div_add_mod x (2 ^ k); omega
  rw [e, ← Nat.two_pow_add_eq_or_of_lt hy]
theorem Ad.or_of {a : Ad} (ha : a.ok) {y k : Nat} (hx : a.num % 2 ^ k = 0) (hy : y < 2 ^ k) : (a.1 ||| (Ad.of y).1, a.2 ||| (Ad.of y).2) = Ad.of (a.num + y) := by
  rw [← or_add hx hy]
  unfold Ad.of
  rw [Nat.or_div_two_pow, Nat.or_mod_two_pow]
  have h1 : a.num / 2 ^ 64 = a.1 := by have := ha.2; unfold Ad.num; omega
  have h2 : a.num % 2 ^ 64 = a.2 := by have := ha.2; unfold Ad.num; omega
  rw [h1, h2]
theorem Ad.with_num {a : Ad} (ha : a.ok) (i : Nat) (hi : i < 128) (h : a.num % 2 ^ (128 - i) = 0) : a.with i = Ad.of (a.num + 2 ^ (127 - i)) := by
  rw [← Ad.or_of ha h (Nat.pow_lt_pow_right (by decide) (by omega))]
  unfold Ad.with
  by_cases h1 : i < 64
  · rw [if_pos h1]
    have e := sub_pow (127 - i) 64 (by omega)
    have e1 : (Ad.of (2 ^ (127 - i))).1 = 2 ^ (63 - i) := by
      unfold Ad.of; simp only; rw [e, Nat.mul_div_cancel _ (by decide)]; congr 1; omega
    have e2 : (Ad.of (2 ^ (127 - i))).2 = 0 := by
      unfold Ad.of; simp only; rw [e, Nat.mul_mod_left]
    rw [e1, e2]; simp
  · rw [if_neg h1]
    have hlt : (2 : Nat) ^ (127 - i) < 2 ^ 64 := Nat.pow_lt_pow_right (by decide) (by omega)
    have e1 : (Ad.of (2 ^ (127 - i))).1 = 0 := by unfold Ad.of; simp only; exact Nat.div_eq_of_lt hlt
    have e2 : (Ad.of (2 ^ (127 - i))).2 = 2 ^ (127 - i) := by unfold Ad.of; simp only; exact Nat.mod_eq_of_lt hlt
    rw [e1, e2]; simp

/-- The i-th prefix of n bits of one. -/
def keyAt (a : Ad) (n i : Nat) : Ad := Ad.of (a.num + i * 2 ^ (128 - n))
def keysOf (a : Ad) (m n : Nat) : List Pf := (List.range (2 ^ (n - m))).map fun i => (keyAt a n i, (n : Int))
/-- All prefixes of n bits that one has: none where it is none, or where there are too many. -/
def keysP (p : Pf) (n : Int) : List Pf := if p.right ∧ p.2 ≤ n ∧ n ≤ 128 ∧ n - p.2 ≤ 8 then keysOf p.1 p.2.toNat n.toNat else []
theorem keysOf_length (a : Ad) (m n : Nat) : (keysOf a m n).length = 2 ^ (n - m) := by simp [keysOf]
theorem keysOf_get (a : Ad) (m n i : Nat) (h : i < 2 ^ (n - m)) : (keysOf a m n)[i]? = some (keyAt a n i, (n : Int)) := by
  simp [keysOf, List.getElem?_range h]
section
variable {a : Ad} {m n i : Nat} (ha : a.ok) (hr : a.num % 2 ^ (128 - m) = 0) (hm : m ≤ n) (hn : n ≤ 128) (hi : i < 2 ^ (n - m))
include ha hr hm hn hi
theorem key_off : i * 2 ^ (128 - n) < 2 ^ (128 - m) := by
  have _h1 := ha
  have _h2 := hr
  rw [show (2 : Nat) ^ (128 - m) = 2 ^ (n - m) * 2 ^ (128 - n) from by rw [← Nat.pow_add]; congr 1; omega]
  exact Nat.mul_lt_mul_of_pos_right hi (Nat.pow_pos (by decide))
theorem key_lt : a.num + i * 2 ^ (128 - n) < 2 ^ 128 := by
  have h1 := key_off ha hr hm hn hi
  have h2 := Ad.num_lt ha
  have e : (2 : Nat) ^ 128 = 2 ^ m * 2 ^ (128 - m) := by rw [← Nat.pow_add]; congr 1; omega
  have e2 : a.num = a.num / 2 ^ (128 - m) * 2 ^ (128 - m) := by have := Nat.div_add_mod a.num (2 ^ (128 - m)); rw [Nat.mul_comm]; omega
  have h3 : a.num / 2 ^ (128 - m) < 2 ^ m := by
    rw [Nat.div_lt_iff_lt_mul (Nat.pow_pos (by decide)), ← e]; exact h2
  have h4 : (a.num / 2 ^ (128 - m) + 1) * 2 ^ (128 - m) ≤ 2 ^ m * 2 ^ (128 - m) := Nat.mul_le_mul_right _ h3
  rw [Nat.succ_mul, ← e2, ← e] at h4
  omega
theorem key_ok : (keyAt a n i).ok := Ad.of_ok (key_lt ha hr hm hn hi)
theorem key_num : (keyAt a n i).num = a.num + i * 2 ^ (128 - n) := by
  have _h := key_off ha hr hm hn hi
  exact Ad.of_num _
theorem key_mod : (keyAt a n i).num % 2 ^ (128 - n) = 0 := by
  rw [key_num ha hr hm hn hi, Nat.add_mul_mod_self_right]
  have e := sub_pow (128 - m) (128 - n) (by omega)
  rw [e, Nat.mul_comm] at hr
  have := Nat.mod_mul_right_mod a.num (2 ^ (128 - n)) (2 ^ (128 - m - (128 - n)))
  rw [hr] at this
  rw [← this, Nat.zero_mod]
theorem key_right : Pf.right (keyAt a n i, (n : Int)) := ⟨by omega, by show (n : Int) ≤ 128; omega, (Ad.cut_self (key_ok ha hr hm hn hi) _).2 (by simpa using key_mod ha hr hm hn hi)⟩
theorem key_cut : cutN (keyAt a n i).num m = a.num := by
  rw [key_num ha hr hm hn hi]; unfold cutN
  have h1 := key_off ha hr hm hn hi
  have e2 : a.num = a.num / 2 ^ (128 - m) * 2 ^ (128 - m) := by have := Nat.div_add_mod a.num (2 ^ (128 - m)); rw [Nat.mul_comm]; omega
  have e3 : (a.num + i * 2 ^ (128 - n)) / 2 ^ (128 - m) = a.num / 2 ^ (128 - m) := by
    rw [e2, Nat.add_comm, Nat.add_mul_div_right _ _ (Nat.pow_pos (by decide)), Nat.div_eq_of_lt h1, ← e2, Nat.zero_add]
  rw [e3, ← e2]
theorem key_has : Pf.has (a, (m : Int)) (keyAt a n i) := by
  refine ⟨⟨by omega, by show (m : Int) ≤ 128; omega, (Ad.cut_self ha _).2 (by simpa using hr)⟩, ?_⟩
  show (keyAt a n i).cut (m : Int).toNat = a
  rw [Ad.cut_is (key_ok ha hr hm hn hi) ha]
  exact key_cut ha hr hm hn hi
end
theorem key_less {a : Ad} {m n i j : Nat} (ha : a.ok) (hr : a.num % 2 ^ (128 - m) = 0) (hm : m ≤ n) (hn : n ≤ 128) (hij : i < j) (hj : j < 2 ^ (n - m)) : Pf.lt (keyAt a n i, (n : Int)) (keyAt a n j, (n : Int)) := by
  apply pf_lt_num (key_ok ha hr hm hn (by omega)) (key_ok ha hr hm hn hj)
  rw [key_num ha hr hm hn (by omega), key_num ha hr hm hn hj]
  have := Nat.mul_lt_mul_of_pos_right hij (show 0 < 2 ^ (128 - n) from Nat.pow_pos (by decide))
  omega
/-- An address that the prefix has lies in one key of it, and only there. -/
theorem key_of {a b : Ad} {m n : Nat} (ha : a.ok) (hb : b.ok) (hr : a.num % 2 ^ (128 - m) = 0) (hm : m ≤ n) (hn : n ≤ 128) (h : Pf.has (a, (m : Int)) b) :
    ∃ i, i < 2 ^ (n - m) ∧ ∀ j, j < 2 ^ (n - m) → (Pf.has (keyAt a n j, (n : Int)) b ↔ j = i) := by
  have hc : cutN b.num m = a.num := (Ad.cut_is hb ha m).1 (by simpa using h.2)
  have hp : 0 < 2 ^ (128 - n) := Nat.pow_pos (by decide)
  have hp2 : 0 < 2 ^ (128 - m) := Nat.pow_pos (by decide)
  have e := sub_pow (128 - m) (128 - n) (by omega)
  rw [show 128 - m - (128 - n) = n - m from by omega] at e
  have hdm := Nat.div_add_mod b.num (2 ^ (128 - m))
  have hml := Nat.mod_lt b.num hp2
  unfold cutN at hc
  rw [Nat.mul_comm] at hc
  have hbd : b.num = a.num + b.num % 2 ^ (128 - m) := by omega
  obtain ⟨r, hre⟩ : ∃ r, r = b.num % 2 ^ (128 - m) := ⟨_, rfl⟩
  rw [← hre] at hbd hml
  have hx : a.num % 2 ^ (128 - n) = 0 := by
    have h1 := hr
    rw [e, Nat.mul_comm] at h1
    have := Nat.mod_mul_right_mod a.num (2 ^ (128 - n)) (2 ^ (n - m))
    rw [h1] at this
    rw [← this, Nat.zero_mod]
  have hax : a.num = a.num / 2 ^ (128 - n) * 2 ^ (128 - n) := by have := Nat.div_add_mod a.num (2 ^ (128 - n)); rw [Nat.mul_comm]; omega
  have hcut : cutN b.num n = a.num + r / 2 ^ (128 - n) * 2 ^ (128 - n) := by
    unfold cutN
    rw [hbd]
    conv => lhs; rw [hax, Nat.add_comm, Nat.add_mul_div_right _ _ hp, Nat.add_mul]
    rw [← hax]; omega
  refine ⟨r / 2 ^ (128 - n), ?_, fun j hj => ?_⟩
  · rw [Nat.div_lt_iff_lt_mul hp, ← e]; exact hml
  · have hk := key_ok ha hr hm hn hj
    have hkr := key_right ha hr hm hn hj
    have : Pf.has (keyAt a n j, (n : Int)) b ↔ cutN b.num n = (keyAt a n j).num := by
      rw [← Ad.cut_is hb hk]
      exact ⟨fun h => by simpa using h.2, fun h => ⟨hkr, by simpa using h⟩⟩
    rw [this, hcut, key_num ha hr hm hn hj]
    constructor
    · intro h
      have : r / 2 ^ (128 - n) * 2 ^ (128 - n) = j * 2 ^ (128 - n) := by omega
      exact (Nat.eq_of_mul_eq_mul_right hp this).symm
    · rintro rfl; rfl
theorem key_not {a b : Ad} {m n : Nat} (ha : a.ok) (hb : b.ok) (hr : a.num % 2 ^ (128 - m) = 0) (hm : m ≤ n) (hn : n ≤ 128) (h : ¬ Pf.has (a, (m : Int)) b) (j : Nat) (hj : j < 2 ^ (n - m)) : ¬ Pf.has (keyAt a n j, (n : Int)) b := by
  intro k
  apply h
  have hk := key_ok ha hr hm hn hj
  have hh := key_has ha hr hm hn hj
  refine ⟨hh.1, ?_⟩
  have h1 : (keyAt a n j).cut m = a := by simpa using hh.2
  have h2 : b.cut n = keyAt a n j := by simpa using k.2
  show b.cut (m : Int).toNat = a
  rw [Int.toNat_natCast, ← h1, ← h2, Ad.cut_cut hb n m hn (by omega), Nat.min_eq_right hm]
/-- The keys of a prefix are those of its two halves. -/
theorem keys_halves {a : Ad} {m n : Nat} (ha : a.ok) (hr : a.num % 2 ^ (128 - m) = 0) (hm : m < n) (hn : n ≤ 128) : keysOf a m n = keysOf a (m + 1) n ++ keysOf (a.with m) (m + 1) n := by
  have hw := Ad.with_num ha m (by omega) hr
  have e : n - m = (n - (m + 1)) + 1 := by omega
  apply List.ext_getElem?
  intro i
  have hl := keysOf_length a (m + 1) n
  have hl2 := keysOf_length (a.with m) (m + 1) n
  have hl3 := keysOf_length a m n
  rw [e, Nat.pow_succ] at hl3
  by_cases h1 : i < 2 ^ (n - (m + 1))
  · rw [List.getElem?_append_left (by omega), keysOf_get _ _ _ _ h1, keysOf_get _ _ _ _ (by rw [e, Nat.pow_succ]; omega)]
  · rw [List.getElem?_append_right (by omega), hl]
    by_cases h2 : i < 2 ^ (n - (m + 1)) * 2
    · rw [keysOf_get _ _ _ _ (show i < 2 ^ (n - m) by rw [e, Nat.pow_succ]; omega), keysOf_get _ _ _ _ (show i - 2 ^ (n - (m + 1)) < 2 ^ (n - (m + 1)) by omega)]
      obtain ⟨j, hj⟩ : ∃ j, i = 2 ^ (n - (m + 1)) + j := ⟨i - 2 ^ (n - (m + 1)), by omega⟩
      have e3 : (2 : Nat) ^ (127 - m) = 2 ^ (n - (m + 1)) * 2 ^ (128 - n) := by rw [← Nat.pow_add]; congr 1; omega
      have ek : keyAt a n i = keyAt (a.with m) n (i - 2 ^ (n - (m + 1))) := by
        unfold keyAt
        rw [hw, Ad.of_num, hj, Nat.add_sub_cancel_left, Nat.add_mul, e3, Nat.add_assoc]
      rw [ek]
    · rw [List.getElem?_eq_none (by omega), List.getElem?_eq_none (by omega)]

end Go.Proofs.Ytcnecjjgnnkjkaa
