/-
  Contract of math/bits OnesCount64, and the mirror's bits: a Bits at block g, its words at block q, is a list of truths. Conditions: as each theorem says.
-/
import Derived.Test.YtpjjijhojcfmnaaGreatProg
import Derived.Test.YtpjjijhojcfmnaaGreatGBase
import Derived.Test.YtpjjijhojcfmnaaGreatPop
import Derived.WalkKit
import Derived.RegionTactic
import Derived.ChangeAlike
import Derived.BigQuiet
import Derived.Deep.QuietTactic
import Derived.Deep.OwnRows
namespace Go.Proofs.YtpjjijhojcfmnaaGreat
open Go.RowKit
set_option linter.unusedVariables false
set_option linter.unusedSimpArgs false

theorem mapB_lt (f : Nat → Nat) (hf : ∀ b, b < 256 → f b < 256) : ∀ (k x : Nat), mapB f k x < 256 ^ k
  | 0, _ => by simp [mapB]
  | k + 1, x => by
    have h1 := mapB_lt f hf k (x / 256)
    have h2 := hf (x % 256) (Nat.mod_lt _ (by decide))
    simp only [mapB]; rw [Nat.pow_succ]; omega
theorem and_wrap (n M : Nat) (hM : M < 2 ^ 64) : bits .and .u64 (IntKind.u64.wrap (n : Int)) (M : Int) = ((n &&& M : Nat) : Int) := by
  have e : IntKind.u64.wrap (n : Int) = ((n % 2 ^ 64 : Nat) : Int) := by rw [IntKind.wrap_u64]; omega
  rw [e, bits_and _ _ (Nat.mod_lt _ (by decide)) hM]
  congr 1
  have h := Nat.and_mod_two_pow (a := n) (b := M) (n := 64)
  rw [Nat.mod_eq_of_lt hM] at h
  rw [← h]; exact Nat.mod_eq_of_lt (Nat.lt_of_le_of_lt Nat.and_le_right hM)
theorem step1 (x : Nat) (hx : x < 2 ^ 64) : IntKind.u64.wrap (bits .and .u64 ((x : Int) / 2) 6148914691236517205 + bits .and .u64 (x : Int) 6148914691236517205) = ((mapB g1 8 x : Nat) : Int) := by
  have h1 := bits_and (x / 2) 6148914691236517205 (by omega) (by decide)
  have h2 := bits_and x 6148914691236517205 hx (by decide)
  have e := (steps_bytes 8 x (by simpa using hx)).1
  have hl := mapB_lt g1 (fun b h => (g_pop ⟨b, h⟩).1) 8 x
  rw [Int.natCast_ediv, show ((2 : Nat) : Int) = 2 from rfl] at h1
  rw [show (6148914691236517205 : Int) = ((6148914691236517205 : Nat) : Int) from rfl, h1, h2, ← e]
  rw [← e] at hl
  exact u64_nat _ hl
theorem step2 (x : Nat) (hx : x < 2 ^ 64) : IntKind.u64.wrap (bits .and .u64 (((mapB g1 8 x : Nat) : Int) / 4) 3689348814741910323 + bits .and .u64 ((mapB g1 8 x : Nat) : Int) 3689348814741910323) = ((mapB (fun b => g2 (g1 b)) 8 x : Nat) : Int) := by
  have hl1 := mapB_lt g1 (fun b h => (g_pop ⟨b, h⟩).1) 8 x
  have e := (steps_bytes 8 x (by simpa using hx)).2.1
  have hl := mapB_lt (fun b => g2 (g1 b)) (fun b h => (g_pop ⟨b, h⟩).2.1) 8 x
  generalize mapB g1 8 x = y at *
  have hy : y < 2 ^ 64 := by simpa using hl1
  have h1 := bits_and (y / 4) 3689348814741910323 (by omega) (by decide)
  have h2 := bits_and y 3689348814741910323 hy (by decide)
  rw [Int.natCast_ediv, show ((4 : Nat) : Int) = 4 from rfl] at h1
  rw [show (3689348814741910323 : Int) = ((3689348814741910323 : Nat) : Int) from rfl, h1, h2, ← e]
  rw [← e] at hl
  exact u64_nat _ hl
theorem step3 (x : Nat) (hx : x < 2 ^ 64) : bits .and .u64 (IntKind.u64.wrap (((mapB (fun b => g2 (g1 b)) 8 x : Nat) : Int) / 16 + ((mapB (fun b => g2 (g1 b)) 8 x : Nat) : Int))) 1085102592571150095 = ((mapB G 8 x : Nat) : Int) := by
  have e := (steps_bytes 8 x (by simpa using hx)).2.2.1
  generalize mapB (fun b => g2 (g1 b)) 8 x = y at *
  have h := and_wrap (y / 16 + y) 1085102592571150095 (by decide)
  rw [Int.natCast_add, Int.natCast_ediv] at h
  rw [← e]; exact h
theorem low7 (y : Nat) : bits .and .i64 (wrap64 (y : Int)) 127 = ((y % 128 : Nat) : Int) := by
  unfold bits
  have e1 : BitVec.ofInt IntKind.i64.bits (wrap64 (y : Int)) = BitVec.ofNat 64 y := by
    apply BitVec.eq_of_toNat_eq
    show (wrap64 (y : Int) % ((2 ^ 64 : Nat) : Int)).toNat = y % 2 ^ 64
    unfold wrap64; omega
  have e2 : BitVec.ofInt IntKind.i64.bits (127 : Int) = BitVec.ofNat 64 127 := rfl
  simp only [e1, e2]
  have e3 : (BitVec.ofNat 64 y &&& BitVec.ofNat 64 127).toNat = y % 128 := by
    rw [BitVec.toNat_and, BitVec.toNat_ofNat, BitVec.toNat_ofNat]
    have := Nat.and_two_pow_sub_one_eq_mod (y % 2 ^ 64) 7
    rw [show 127 % 2 ^ 64 = 2 ^ 7 - 1 from rfl, this]; omega
  show IntKind.i64.wrap ((((BitVec.ofNat 64 y) &&& (BitVec.ofNat 64 127)).toNat : Nat) : Int) = _
  rw [e3, IntKind.wrap_i64]; omega
end Go.Proofs.YtpjjijhojcfmnaaGreat
