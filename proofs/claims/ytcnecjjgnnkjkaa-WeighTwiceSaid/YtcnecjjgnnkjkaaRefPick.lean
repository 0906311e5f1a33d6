/-
  Contracts of the reference's functions for hashes and places, and of its comparing of two lists of ints. No condition but that words are words.
-/
import Derived.Test.YtcnecjjgnnkjkaaGBase
import Derived.Test.YtcnecjjgnnkjkaaGRef
namespace Go.Proofs.Ytcnecjjgnnkjkaa
open Go.RowKit
set_option linter.unusedVariables false
set_option linter.unusedSimpArgs false
set_option maxRecDepth 100000

/-- The product's high word, by halves. -/
theorem mul_halves (x y : Nat) (hx : x < 2 ^ 64) (hy : y < 2 ^ 64) :
    x / 2 ^ 32 * (y % 2 ^ 32) + x % 2 ^ 32 * (y % 2 ^ 32) / 2 ^ 32 < 2 ^ 64 ∧
    x % 2 ^ 32 * (y / 2 ^ 32) + (x / 2 ^ 32 * (y % 2 ^ 32) + x % 2 ^ 32 * (y % 2 ^ 32) / 2 ^ 32) % 2 ^ 32 < 2 ^ 64 ∧
    x / 2 ^ 32 * (y / 2 ^ 32) + (x / 2 ^ 32 * (y % 2 ^ 32) + x % 2 ^ 32 * (y % 2 ^ 32) / 2 ^ 32) / 2 ^ 32 + (x % 2 ^ 32 * (y / 2 ^ 32) + (x / 2 ^ 32 * (y % 2 ^ 32) + x % 2 ^ 32 * (y % 2 ^ 32) / 2 ^ 32) % 2 ^ 32) / 2 ^ 32 = redN x y := by
  obtain ⟨a, ha⟩ : ∃ a, a = x / 2 ^ 32 := ⟨_, rfl⟩
  obtain ⟨b, hb⟩ : ∃ b, b = x % 2 ^ 32 := ⟨_, rfl⟩
  obtain ⟨c, hc⟩ : ∃ c, c = y / 2 ^ 32 := ⟨_, rfl⟩
  obtain ⟨d, hd⟩ : ∃ d, d = y % 2 ^ 32 := ⟨_, rfl⟩
  have ex : x = a * 2 ^ 32 + b := by omega
  have ey : y = c * 2 ^ 32 + d := by omega
  rw [← ha, ← hb, ← hc, ← hd]
  have la : a ≤ 4294967295 := by omega
  have lb : b ≤ 4294967295 := by omega
  have lc : c ≤ 4294967295 := by omega
  have ld : d ≤ 4294967295 := by omega
  have m1 : a * d ≤ 18446744065119617025 := Nat.le_trans (Nat.mul_le_mul la ld) (by decide)
  have m2 : b * d ≤ 18446744065119617025 := Nat.le_trans (Nat.mul_le_mul lb ld) (by decide)
  have m3 : b * c ≤ 18446744065119617025 := Nat.le_trans (Nat.mul_le_mul lb lc) (by decide)
  have ep : x * y = a * c * 18446744073709551616 + (a * d + b * c) * 4294967296 + b * d := by
    rw [ex, ey, Nat.add_mul, Nat.mul_add, Nat.mul_add, Nat.add_mul]
    have e1 : a * 2 ^ 32 * (c * 2 ^ 32) = a * c * 18446744073709551616 := by
      rw [Nat.mul_mul_mul_comm]
    have e2 : a * 2 ^ 32 * d = a * d * 4294967296 := by rw [Nat.mul_right_comm]
    have e3 : b * (c * 2 ^ 32) = b * c * 4294967296 := by rw [Nat.mul_assoc]
    rw [e1, e2, e3]; omega
  unfold redN
  rw [ep]
  generalize a * d = P at *
  generalize b * d = Q at *
  generalize b * c = R at *
  generalize a * c = S at *
  refine ⟨by omega, by omega, by omega⟩

/-- A slice of ints that can be read. -/
def RI (w : World) (v : Value) (l : List Nat) : Prop := ∃ A cap, v = .slice A l.length cap ∧ l.length ≤ 9223372036854775807 ∧ ∀ j, j < l.length → ∃ g, A = some ⟨g, 0, none⟩ ∧ w.cell? ⟨g, j, none⟩ = some (.int .i64 ((l.getD j 0 : Nat) : Int))
theorem RI.below {w w' : World} {v : Value} {l : List Nat} (h : RI w v l) (hb : Below w.heap.size w w') : RI w' v l := by
  obtain ⟨A, cap, rfl, h1, h2⟩ := h
  refine ⟨A, cap, rfl, h1, fun j hj => ?_⟩
  obtain ⟨g, rfl, hc⟩ := h2 j hj
  exact ⟨g, rfl, (hb.cell (World.block_lt_of_cell? w _ hc)).trans hc⟩
theorem RI.of_owns {w : World} {base : Nat} {e : TypeId} {v : Value} {n : Nat} {l : List Nat} (h : Owns w base e 1 v n (intsV l)) : RI w v l := by
  have hl : l.length = n := by have := h.1; simpa [intsV] using this
  subst hl
  obtain ⟨A, cap, rfl, h1, h2, h3⟩ := h.form
  refine ⟨A, cap, rfl, by unfold maxLen at h2; omega, fun j hj => ?_⟩
  obtain ⟨g, rfl, _, _, hc⟩ := h3 (by omega)
  exact ⟨g, rfl, (hc j (by omega)).trans (by simp [intsV, hj])⟩

def SameLoop (w : World) (n : Nat) (i : Value) (wr : World) : Prop := ∃ k : Nat, k ≤ n ∧ i = .int .i64 k ∧ Below w.heap.size w wr

theorem take_eq {l1 l2 : List Nat} (h : l1.length = l2.length) (k : Nat) (hk : k < l1.length) (he : l1.take k = l2.take k) : l1.take (k + 1) = l2.take (k + 1) ↔ l1.getD k 0 = l2.getD k 0 := by
  have h1 : l1.getD k 0 = l1[k] := by simp [hk]
  have h2 : l2.getD k 0 = l2[k]'(by omega) := by simp [show k < l2.length by omega]
  rw [h1, h2, List.take_succ_eq_append_getElem hk, List.take_succ_eq_append_getElem (show k < l2.length by omega), he, List.append_cancel_left_eq]; simp

def SameRel (w : World) (l1 l2 : List Nat) (i : Value) (wr : World) : Prop := ∃ k : Nat, k ≤ l1.length ∧ i = .int .i64 k ∧ l1.take k = l2.take k ∧ Below w.heap.size w wr

theorem ref_sameInts (w : World) (v1 v2 : Value) (l1 l2 : List Nat) (h1 : RI w v1 l1) (h2 : RI w v2 l2) (b : Bool) (hb : b = decide (l1 = l2)) :
    Calls Try.prog 14 #[v1, v2] w fun e w' => e = .returned (.bool b) ∧ Below w.heap.size w w' := by
  have h1' := hid h1
  have h2' := hid h2
  have HB := hid hb
  clear hb
  obtain ⟨A, c1, rfl, n1, r1⟩ := h1
  obtain ⟨B, c2, rfl, n2, r2⟩ := h2
  have R1 := hid r1
  have R2 := hid r2
  clear r1 r2 h1' h2'
  by_cases hl : l1.length = l2.length
  · have hn : ((l1.length : Int) != (l2.length : Int)) = false := by simp [hl]
    have HL := hid hl
    clear hl
    go_enter Try.func14, Try.ntmps14
    go_wp2_with fail
    go_loopw [5] (fun i wr => SameRel w l1 l2 i wr) (fun i _ => l1.length - (intOf i).toNat)
    case atStart => exact ⟨0, Nat.zero_le _, rfl, rfl, Below.refl _ _⟩
    case round =>
      obtain ⟨k, hk, rfl, ht, hB⟩ := hrel
      have HT := hid ht
      clear ht
      by_cases hlt : k < l1.length
      · obtain ⟨g1, rfl, s1⟩ := R1.out k hlt
        obtain ⟨g2, rfl, s2⟩ := R2.out k (by have := HL.out; omega)
        have s1 := (hB.cell (World.block_lt_of_cell? w _ s1)).trans s1
        have s2 := (hB.cell (World.block_lt_of_cell? w _ s2)).trans s2
        have hnx := hid (take_eq HL.out k hlt HT.out)
        have hk2 : k < l2.length := by have := HL.out; omega
        generalize l1.getD k 0 = x at s1 hnx
        generalize l2.getD k 0 = y at s2 hnx
        by_cases he : x = y
        · have e1 : ((x : Int) != (y : Int)) = false := by simp [he]
          have HE := hid he
          clear he
          go_wp2_with fail
          go_quiet (fail)
          go_wp2_with fail
          go_roundw
          case rel => exact ⟨k + 1, by omega, by go_num, hnx.out.2 HE.out, hB.drewN _⟩
          case measure => simp [intOf]; omega
        · have e1 : ((x : Int) != (y : Int)) = true := by simp [he]; omega
          have HE := hid he
          clear he
          go_wp2_with fail
          go_quiet (fail)
          go_wp2_with fail
          go_ret
          refine ⟨ret_bool ?_, hB.drewN _⟩
          rw [HB.out]
          exact (decide_eq_false fun h => HE.out (hnx.out.1 (by rw [h]))).symm
      · have hkl : k = l1.length := by omega
        have HK := hid hkl
        clear hkl
        go_wp2_with fail
        go_ret
        refine ⟨ret_bool ?_, hB⟩
        rw [HB.out]
        have e := HT.out
        rw [HK.out, List.take_of_length_le (Nat.le_refl _), HL.out, List.take_of_length_le (Nat.le_refl _)] at e
        exact (decide_eq_true e).symm
  · have hn : ((l1.length : Int) != (l2.length : Int)) = true := by simp [hl]; omega
    have HL := hid hl
    clear hl
    go_enter Try.func14, Try.ntmps14
    go_wp2_with fail
    go_ret
    refine ⟨ret_bool ?_, Below.refl _ _⟩
    rw [HB.out]
    exact (decide_eq_false fun h => HL.out (by rw [h])).symm

theorem ref_sameInts_eq (w : World) (v1 v2 : Value) (l : List Nat) (h1 : RI w v1 l) (h2 : RI w v2 l) :
    Calls Try.prog 14 #[v1, v2] w fun e w' => e = .returned (.bool true) ∧ Below w.heap.size w w' := ref_sameInts w v1 v2 l l h1 h2 true (by simp)

end Go.Proofs.Ytcnecjjgnnkjkaa
