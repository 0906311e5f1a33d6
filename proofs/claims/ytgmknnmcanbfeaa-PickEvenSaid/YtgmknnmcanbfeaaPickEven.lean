/-
  The walk of the law PickEven: for all numbers it returns true and leaves memory alone. No condition.
-/
import Derived.Test.YtgmknnmcanbfeaaPickBelow
namespace Go.Proofs.Ytgmknnmcanbfeaa
open Go.RowKit
set_option linter.unusedVariables false
set_option linter.unusedSimpArgs false
set_option maxRecDepth 100000

namespace Even
/-- How many of the first i numbers lie at place j. -/
def cf (k j i : Nat) : Nat := if j = 0 then min i (k + 1) else min (i - (j * k + 1)) k
theorem cf_next (k j i : Nat) (hk : 0 < k) : cf k j (i + 1) = cf k j i + if (i - 1) / k = j then 1 else 0 := by
  have e : (i - 1) / k = j ↔ j * k ≤ i - 1 ∧ i - 1 < j * k + k := by
    constructor
    · intro h; subst h
      exact ⟨Nat.div_mul_le_self _ _, by have := Nat.lt_div_mul_add (a := i - 1) hk; omega⟩
    · intro ⟨h1, h2⟩
      apply Nat.div_eq_of_lt_le h1
      rw [Nat.succ_mul]; exact h2
  unfold cf
  by_cases hj : j = 0
  · subst hj
    simp only [Nat.zero_mul, Nat.zero_le, true_and, Nat.zero_add] at e
    simp only [if_true]
    by_cases h : (i - 1) / k = 0
    · have := e.1 h; rw [if_pos h]; omega
    · rw [if_neg h]; have : ¬ i - 1 < k := fun h' => h (e.2 h'); omega
  · rw [if_neg hj, if_neg hj]
    have hp : k ≤ j * k := Nat.le_mul_of_pos_left k (Nat.pos_of_ne_zero hj)
    generalize j * k = J at *
    by_cases h : (i - 1) / k = j
    · have := e.1 h; rw [if_pos h]; omega
    · rw [if_neg h]
      have : ¬ (J ≤ i - 1 ∧ i - 1 < J + k) := fun h' => h (e.2 h')
      omega
theorem cf_zero (k j : Nat) : cf k j 0 = 0 := by unfold cf; split <;> omega
theorem cf_end (m k j : Nat) (hk : 0 < k) (hj : j < m) : k - 1 ≤ cf k j (m * k) ∧ cf k j (m * k) ≤ k + 1 := by
  have h1 : k ≤ m * k := Nat.le_mul_of_pos_left k (by omega)
  have h2 : j * k + k ≤ m * k := by rw [← Nat.succ_mul]; exact Nat.mul_le_mul_right k hj
  unfold cf
  split
  · omega
  · generalize j * k = J at *; generalize m * k = M at *; omega
theorem div_lt_m (m k i : Nat) (hk : 0 < k) (hi : i < m * k) : (i - 1) / k < m := by
  rw [Nat.div_lt_iff_lt_mul hk]; omega
def step (n : Nat) : Nat := 18446744073709551615 / n
theorem step_red (m k i : Nat) (hm : 0 < m) (hk : 0 < k) (hmk : m * k ≤ 1200) (hi : i < m * k) : redN (i * step (m * k)) m = (i - 1) / k := by
  obtain ⟨n, hn⟩ : ∃ n, n = m * k := ⟨_, rfl⟩
  rw [← hn] at hmk hi ⊢
  have hn0 : 0 < n := by omega
  obtain ⟨s, hs⟩ : ∃ s, s = step n := ⟨_, rfl⟩
  rw [← hs]
  have hs1 : s * n ≤ 18446744073709551615 := by rw [hs]; exact Nat.div_mul_le_self _ _
  have hs2 : 18446744073709551615 < s * n + n := by rw [hs]; exact Nat.lt_div_mul_add hn0
  obtain ⟨d, hd⟩ : ∃ d, s * n + d = 18446744073709551616 := ⟨18446744073709551616 - s * n, by omega⟩
  have hd1 : 1 ≤ d := by omega
  have hd2 : d ≤ n := by omega
  -- P * k = i * (2^64 - d)
  have hP : i * s * m * k + i * d = i * 18446744073709551616 := by
    rw [← hd, Nat.mul_add, hn, Nat.mul_assoc (i * s), Nat.mul_assoc i s]
  have hT : i * d ≤ 1440000 := Nat.le_trans (Nat.mul_le_mul (Nat.le_of_lt hi) hd2) (Nat.mul_le_mul hmk hmk)
  unfold redN
  by_cases h0 : i = 0
  · subst h0; simp
  · have hT1 : 1 ≤ i * d := Nat.mul_pos (by omega) hd1
    obtain ⟨q, hq⟩ : ∃ q, q = (i - 1) / k := ⟨_, rfl⟩
    have hq1 : q * k ≤ i - 1 := by rw [hq]; exact Nat.div_mul_le_self _ _
    have hq2 : i - 1 < q * k + k := by rw [hq]; exact Nat.lt_div_mul_add hk
    rw [← hq]
    generalize hY : i * s * m = P at *
    apply Nat.div_eq_of_lt_le
    · -- q * 2^64 ≤ P
      apply Nat.le_of_mul_le_mul_right _ hk
      have : q * 2 ^ 64 * k = q * k * 18446744073709551616 := by rw [Nat.mul_assoc, Nat.mul_comm (2 ^ 64) k, ← Nat.mul_assoc]
      rw [this]
      generalize q * k = X at *
      generalize i * d = T at *
      generalize P * k = Z at *
      omega
    · apply Nat.lt_of_mul_lt_mul_right (a := k)
      have : (q + 1) * 2 ^ 64 * k = q * k * 18446744073709551616 + k * 18446744073709551616 := by
        rw [Nat.mul_assoc, Nat.mul_comm (2 ^ 64) k, ← Nat.mul_assoc, Nat.succ_mul, Nat.add_mul]
      rw [this]
      generalize q * k = X at *
      generalize i * d = T at *
      generalize P * k = Z at *
      omega
theorem step_lt (n i : Nat) (hi : i < n) : i * step n < 2 ^ 64 := by
  have h1 : i * step n ≤ n * step n := Nat.mul_le_mul_right _ (Nat.le_of_lt hi)
  have h2 : n * step n ≤ 18446744073709551615 := by unfold step; exact Nat.mul_div_le _ _
  omega
def counts (m k i : Nat) : List Nat := (List.range m).map fun j => cf k j i
theorem counts_get (m k i j : Nat) (h : j < m) : (intsV (counts m k i))[j]? = some (.int .i64 (cf k j i : Int)) := by
  simp [intsV, counts, h]
theorem counts_zero (m k : Nat) : intsV (counts m k 0) = List.replicate m (.int .i64 0) := by
  apply List.ext_getElem?
  intro j
  by_cases hj : j < m
  · rw [counts_get _ _ _ _ hj, cf_zero]; simp [List.getElem?_replicate, hj]
  · rw [List.getElem?_eq_none (by simp [intsV, counts]; omega), List.getElem?_eq_none (by simp; omega)]
theorem counts_next (m k i : Nat) (hk : 0 < k) (hi : i < m * k) : (intsV (counts m k i)).set ((i - 1) / k) (.int .i64 ((cf k ((i - 1) / k) i : Int) + 1)) = intsV (counts m k (i + 1)) := by
  have hlt := div_lt_m m k i hk hi
  generalize hJ : (i - 1) / k = J at *
  apply List.ext_getElem?
  intro j
  by_cases hj : j < m
  · rw [counts_get _ _ _ _ hj, List.getElem?_set, cf_next _ _ _ hk, hJ]
    by_cases e : J = j
    · subst e; rw [if_pos rfl, if_pos (by simpa [intsV, counts] using hj), if_pos rfl]; simp
    · rw [if_neg e, counts_get _ _ _ _ hj, if_neg e]; simp
  · rw [List.getElem?_eq_none (by simp [intsV, counts]; omega), List.getElem?_eq_none (by simp [intsV, counts]; omega)]

structure Rel (W wr : World) (g m k i : Nat) : Prop where
  c : Blk wr g 3 (intsV (counts m k i))
  below : Below W.heap.size W wr
def Loop (W : World) (g m k : Nat) (v : Value) (wr : World) : Prop := ∃ i : Nat, i ≤ m * k ∧ v = .int .u64 i ∧ Rel W wr g m k i
def Loop2 (m : Nat) (v : Value) : Prop := ∃ i : Nat, i ≤ m ∧ v = .int .i64 i

theorem out (W : World) (m k : Int) (h : ¬ (1 ≤ m ∧ m ≤ 60 ∧ 1 ≤ k ∧ k ≤ 20)) :
    Calls Try.prog 10 #[.int .i64 m, .int .i64 k] W fun e W' => e = .returned (.bool true) ∧ Below W.heap.size W W' := by
  go_enter Try.func10, Try.ntmps10
  go_wp2_with fail
  refine (pick_alive _).mono ?_
  rintro _ w1 ⟨rfl, hb⟩
  go_wp2_with fail
  all_goals (go_ret; exact ⟨rfl, hb⟩)

theorem inn (W : World) (m k : Nat) (hm : 1 ≤ m) (hm' : m ≤ 60) (hk : 1 ≤ k) (hk' : k ≤ 20) :
    Calls Try.prog 10 #[.int .i64 (m : Int), .int .i64 (k : Int)] W fun e W' => e = .returned (.bool true) ∧ Below W.heap.size W W' := by
  have hmk : m * k ≤ 1200 := Nat.le_trans (Nat.mul_le_mul hm' hk') (by decide)
  have hmk1 : 1 ≤ m * k := Nat.mul_pos hm hk
  have e1 : (m : Int) * (k : Int) = ((m * k : Nat) : Int) := by simp
  have hred := hid fun i (hi : i < m * k) => step_red m k i hm hk hmk hi
  have hlt := hid fun i (hi : i < m * k) => step_lt (m * k) i hi
  have hend := hid fun j (hj : j < m) => cf_end m k j hk hj
  have hnx := hid fun i (hi : i < m * k) => counts_next m k i hk hi
  have hdl := hid fun i (hi : i < m * k) => div_lt_m m k i hk hi
  obtain ⟨N, hN⟩ : ∃ N, N = m * k := ⟨_, rfl⟩
  rw [← hN] at hmk hmk1 e1 hred hlt hend hnx hdl
  have HN := hid hN
  clear hN
  go_enter Try.func10, Try.ntmps10
  go_wp2_with fail
  refine (pick_alive _).mono ?_
  rintro _ w1 ⟨rfl, hb⟩
  have hmk2 := fun w => make_at (P := Try.prog) 41 3 (.int .i64 0) 8 Try.underlying41 int_row rfl .i64 .i64 (m : Int) m rfl (by omega) (by omega) w
  go_wp2_with fail
  have es : (18446744073709551615 : Int) / (N : Int) = (step N : Int) := by unfold step; simp
  rw [es]
  clear es hmk2
  have HS := hid (show step N = step N from rfl)
  go_loopw [9] (fun v wr => Loop W w1.heap.size m k v wr) (fun v _ => N - (intOf v).toNat)
  case atStart => exact ⟨0, Nat.zero_le _, rfl, by rw [counts_zero]; exact Blk.made w1 _ m _, hb.alloc hb.size _⟩
  case round =>
    obtain ⟨i, hi, rfl, hR⟩ := hrel
    rw [← HN.out] at hi
    have hbs := hb.size
    clear hb
    by_cases hlt' : i < N
    · have h1 := hred.out i hlt'
      have h2 := hlt.out i hlt'
      have h3 := hdl.out i hlt'
      have h4 := hid (hnx.out i hlt')
      obtain ⟨T, hT⟩ : ∃ T, T = i * step N := ⟨_, rfl⟩
      have e2 : IntKind.u64.wrap ((i : Int) * (step N : Int)) = (T : Int) := by rw [hT, ← u64_nat _ h2]; simp
      rw [← hT] at h1 h2
      have c := pick_reduce T h2 m (by omega)
      have hr : redI T (m : Int) = (i - 1) / k := by unfold redI; rw [if_neg (by omega)]; exact h1
      rw [hr] at c
      have hcell := hR.c.cellv (counts_get m k i _ h3)
      have hf := hR.c.frozen ((i - 1) / k)
      generalize (i - 1) / k = J at c h3 h4 hcell hf
      have C := hid c
      clear c h1 h2 hr hT
      have hcf : cf k J i ≤ 21 := by unfold cf; split <;> omega
      go_wp2_with fail
      refine (C.out _).mono ?_
      rintro _ w3 ⟨rfl, rfl⟩
      clear e2
      go_wp2_with fail
      go_roundw
      case rel => exact ⟨i + 1, by rw [← HN.out]; omega, by go_num, by rw [← h4.out]; exact hR.c.set J _, hR.below.setCell hbs _⟩
      case measure => simp [intOf]; omega
    · obtain rfl : i = N := by omega
      have hR2 := hid hR
      clear hR
      go_wp2_with fail
      go_loop [11] (fun v => Loop2 m v) (fun v => m - (intOf v).toNat)
      case atStart => exact ⟨0, Nat.zero_le _, rfl⟩
      case round =>
        obtain ⟨j, hj, rfl⟩ := hrel
        by_cases hjm : j < m
        · have hcell := hR2.out.c.cellv (counts_get m k i _ hjm)
          have he := hend.out j hjm
          generalize cf k j i = X at hcell he
          go_wp2_with fail
          go_round
          case rel => exact ⟨j + 1, by omega, by go_num⟩
          case measure => simp [intOf]; omega
        · go_wp2_with fail
          go_ret
          exact ⟨rfl, hR2.out.below⟩
end Even

theorem pickEven_walk (W : World) (m : Int) (wm : (Lit.int .i64 m).wf = true) (k : Int) (wk : (Lit.int .i64 k).wf = true) :
    Calls Try.prog 10 #[.int .i64 m, .int .i64 k] W fun e W' => e = .returned (.bool true) ∧ Below W.heap.size W W' := by
  by_cases h : 1 ≤ m ∧ m ≤ 60 ∧ 1 ≤ k ∧ k ≤ 20
  · obtain ⟨m, rfl⟩ := Int.eq_ofNat_of_zero_le (show 0 ≤ m by omega)
    obtain ⟨k, rfl⟩ := Int.eq_ofNat_of_zero_le (show 0 ≤ k by omega)
    exact Even.inn W m k (by omega) (by omega) (by omega) (by omega)
  · exact Even.out W m k h

end Go.Proofs.Ytgmknnmcanbfeaa
