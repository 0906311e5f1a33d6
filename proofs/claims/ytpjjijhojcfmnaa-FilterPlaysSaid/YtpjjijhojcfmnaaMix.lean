/-
  Contracts of the hash functions of package mixer, and of the reference's. No condition but that words are words.
-/
import Derived.Test.YtpjjijhojcfmnaaAddr
namespace Go.Proofs.Ytpjjijhojcfmnaa
open Go.RowKit
set_option linter.unusedVariables false
set_option linter.unusedSimpArgs false
set_option maxRecDepth 100000

def mixA (x : Nat) : Nat := (x + 11400714819323198485) % 2 ^ 64
def mixB (x : Nat) : Nat := (mixA x ^^^ mixA x / 2 ^ 30) * 13787848793156543929 % 2 ^ 64
def mixC (x : Nat) : Nat := (mixB x ^^^ mixB x / 2 ^ 27) * 10723151780598845931 % 2 ^ 64
/-- The mixed number. -/
def mixN (x : Nat) : Nat := mixC x ^^^ mixC x / 2 ^ 31
theorem half_lt {x k : Nat} (h : x < 2 ^ 64) : x / 2 ^ k < 2 ^ 64 := Nat.lt_of_le_of_lt (Nat.div_le_self _ _) h
theorem mixN_lt (x : Nat) : mixN x < 2 ^ 64 := Nat.xor_lt_two_pow (Nat.mod_lt _ (by decide)) (half_lt (Nat.mod_lt _ (by decide)))
theorem wrap_nat (n : Nat) : IntKind.u64.wrap (n : Int) = ((n % 2 ^ 64 : Nat) : Int) := by rw [IntKind.wrap_u64]; omega
theorem xor_half (x k : Nat) (h : x < 2 ^ 64) : bits .xor .u64 (x : Int) ((x : Int) / 2 ^ k) = ((x ^^^ x / 2 ^ k : Nat) : Int) := by
  rw [div_nat]; exact bits_xor _ _ h (half_lt h)

theorem mix_steps (x : Nat) : IntKind.u64.wrap ((x : Int) + 11400714819323198485) = (mixA x : Int) ∧
    bits .xor .u64 (mixA x : Int) ((mixA x : Int) / 1073741824) = ((mixA x ^^^ mixA x / 2 ^ 30 : Nat) : Int) ∧
    IntKind.u64.wrap (((mixA x ^^^ mixA x / 2 ^ 30 : Nat) : Int) * 13787848793156543929) = (mixB x : Int) ∧
    bits .xor .u64 (mixB x : Int) ((mixB x : Int) / 134217728) = ((mixB x ^^^ mixB x / 2 ^ 27 : Nat) : Int) ∧
    IntKind.u64.wrap (((mixB x ^^^ mixB x / 2 ^ 27 : Nat) : Int) * 10723151780598845931) = (mixC x : Int) ∧
    bits .xor .u64 (mixC x : Int) ((mixC x : Int) / 2147483648) = (mixN x : Int) := by
  have h1 := xor_half (mixA x) 30 (Nat.mod_lt _ (by decide))
  have h2 := xor_half (mixB x) 27 (Nat.mod_lt _ (by decide))
  have h3 := xor_half (mixC x) 31 (Nat.mod_lt _ (by decide))
  refine ⟨?_, h1, ?_, h2, ?_, h3⟩
  · have := wrap_nat (x + 11400714819323198485); simpa [mixA] using this
  · have := wrap_nat ((mixA x ^^^ mixA x / 2 ^ 30) * 13787848793156543929); simpa [mixB] using this
  · have := wrap_nat ((mixB x ^^^ mixB x / 2 ^ 27) * 10723151780598845931); simpa [mixC] using this

theorem mix (x : Nat) (w : World) : Calls Try.prog 107 #[.int .u64 (x : Int)] w fun e w' => e = .returned (.int .u64 (mixN x : Int)) ∧ w = w' := by
  obtain ⟨h1, h2, h3, h4, h5, h6⟩ := mix_steps x
  generalize mixA x ^^^ mixA x / 2 ^ 30 = a1 at h2 h3
  generalize mixB x ^^^ mixB x / 2 ^ 27 = b1 at h4 h5
  generalize mixA x = a0 at h1 h2
  generalize mixB x = b0 at h3 h4
  generalize mixC x = c0 at h5 h6
  generalize mixN x = r at h6 ⊢
  go_enter Try.func107, Try.ntmps107
  go_wp2
  go_ret
  exact ⟨rfl, rfl⟩

/-- A length as a word. -/
def lenW (n : Int) : Nat := (n % 18446744073709551616).toNat
theorem lenW_lt (n : Int) : lenW n < 2 ^ 64 := by unfold lenW; omega
theorem wrap_len (n : Int) : IntKind.u64.wrap n = (lenW n : Int) := by rw [IntKind.wrap_u64]; unfold lenW; omega
def hashN (s : Nat) (p : Pf) : Nat := mixN (mixN (mixN (s ^^^ p.1.1) ^^^ p.1.2) ^^^ lenW p.2)
theorem hashN_lt (s : Nat) (p : Pf) : hashN s p < 2 ^ 64 := mixN_lt _

theorem hash (s : Nat) (hs : s < 2 ^ 64) (p : Pf) (hp : p.1.ok) (w : World) :
    Calls Try.prog 154 #[.int .u64 (s : Int), .agg #[.int .u64 (p.1.1 : Int), .int .u64 (p.1.2 : Int), .int .i64 p.2]] w fun e w' => e = .returned (.int .u64 (hashN s p : Int)) ∧ Below w.heap.size w w' := by
  obtain ⟨⟨a, b⟩, n⟩ := p
  have e1 := bits_xor s a hs hp.1
  have e2 := bits_xor (mixN (s ^^^ a)) b (mixN_lt _) hp.2
  have e3 := bits_xor (mixN (mixN (s ^^^ a) ^^^ b)) (lenW n) (mixN_lt _) (lenW_lt n)
  have e4 := wrap_len n
  have hN : hashN s ((a, b), n) = mixN (mixN (mixN (s ^^^ a) ^^^ b) ^^^ lenW n) := rfl
  rw [hN]
  clear hN
  have c1 := hid fun w => mix (s ^^^ a) w
  have c2 := hid fun w => mix (mixN (s ^^^ a) ^^^ b) w
  have c3 := hid fun w => mix (mixN (mixN (s ^^^ a) ^^^ b) ^^^ lenW n) w
  generalize mixN (mixN (mixN (s ^^^ a) ^^^ b) ^^^ lenW n) = r3 at c3 ⊢
  generalize mixN (mixN (s ^^^ a) ^^^ b) ^^^ lenW n = x3 at e3 c3
  generalize mixN (mixN (s ^^^ a) ^^^ b) = r2 at c2 e3
  generalize mixN (s ^^^ a) ^^^ b = x2 at e2 c2
  generalize mixN (s ^^^ a) = r1 at c1 e2
  generalize s ^^^ a = x1 at e1 c1
  generalize lenW n = l at e4 e3
  go_enter Try.func154, Try.ntmps154
  go_wp2_with fail
  refine wp_region_later (fun w' => w'.cell? ⟨w.heap.size, 0, none⟩ = some (.int .u64 (a : Int)) ∧ w'.cell? ⟨w.heap.size, 1, none⟩ = some (.int .u64 (b : Int)) ∧ w'.cell? ⟨w.heap.size, 2, none⟩ = some (.int .i64 n))
    (fun x => ⟨x.cell (by simp), x.cell (by simp), x.cell (by simp)⟩) (by kernel_rfl) (by kernel_rfl) (fun HS => ?_)
  repeat (go_big_quiet_step (first
    | (with_reducible exact Later.calls_same _ (c1.out _))
    | (with_reducible exact Later.calls_same _ (c2.out _))
    | (with_reducible exact Later.calls_same _ (c3.out _))))
  refine wpQuiet_nil ?_
  rintro w1 ⟨⟨_, hb1⟩, rfl⟩
  go_wp2
  go_ret
  exact ⟨rfl, Below.trans (b := _) ((Below.refl _ _).alloc (Nat.le_refl _) _) (hb1.mono (by simp))⟩

end Go.Proofs.Ytpjjijhojcfmnaa
