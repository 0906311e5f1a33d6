/-
  The walk of the law NibbleSticks: for all numbers it returns true and leaves memory alone. No condition.
-/
import Derived.Test.YtgmknnmcanbfeaaNibAlive
namespace Go.Proofs.Ytgmknnmcanbfeaa
open Go.RowKit
set_option linter.unusedVariables false
set_option linter.unusedSimpArgs false

namespace Sticks
def N0 (n a v : Nat) : List Nat := (List.replicate n 0).set a v
theorem N0_len (n a v : Nat) : (N0 n a v).length = n := by simp [N0]
theorem N0_zero (n a : Nat) : N0 n a 0 = List.replicate n 0 := by
  apply List.ext_getElem
  · simp [N0]
  · intro i h1 h2; simp [N0, List.getElem_set]
theorem at_same (n a v : Nat) (h : a < n) : at0 (N0 n a v) (a : Int) = v := by rw [at0_nat]; simp [N0, List.getD_eq_getElem?_getD, h]
theorem at_other (n a v i : Nat) (h : i ≠ a) : at0 (N0 n a v) (i : Int) = 0 := by
  rw [at0_nat]; simp only [N0, List.getD_eq_getElem?_getD, List.getElem?_set, List.getElem?_replicate]
  rw [if_neg (fun e => h e.symm)]; split <;> rfl
theorem up_next (n a v : Nat) (h : a < n) : upC (N0 n a v) (a : Int) = N0 n a (if v < 15 then v + 1 else v) := by
  unfold upC
  rw [at_same n a v h, N0_len]
  by_cases hv : v < 15
  · rw [if_pos (by omega), if_pos hv]; simp [N0]
  · rw [if_neg (by omega), if_neg hv]
theorem down_next (n a v : Nat) (h : a < n) : downC (N0 n a v) (a : Int) = N0 n a (if 0 < v ∧ v < 15 then v - 1 else v) := by
  unfold downC
  rw [at_same n a v h, N0_len]
  by_cases hv : 0 < v ∧ v < 15
  · rw [if_pos (by omega), if_pos hv]; simp [N0]
  · rw [if_neg (by omega), if_neg hv]
theorem fulls_one (n a v : Nat) (h : a < n) : fulls (N0 n a v) = if v = 15 then 1 else 0 := by
  unfold fulls N0
  have : ∀ n a, a < n → ((List.replicate n 0).set a v).filter (· = 15) = if v = 15 then [15] else [] := by
    intro n
    induction n with
    | zero => intro a h; omega
    | succ n ih =>
      intro a hn
      cases a with
      | zero =>
        simp only [List.replicate_succ, List.set_cons_zero, List.filter_cons]
        have : (List.replicate n 0).filter (fun x => decide (x = 15)) = [] := by simp
        rw [this]; by_cases e : v = 15 <;> simp [e]
      | succ a =>
        simp only [List.replicate_succ, List.set_cons_succ, List.filter_cons]
        rw [if_neg (by decide)]; exact ih a (by omega)
  rw [this n a h]; split <;> rfl
/-- The counter behind so many ups. -/
def U (i : Nat) : Nat := min i 15
theorem U_next (i : Nat) : (if U i < 15 then U i + 1 else U i) = U (i + 1) := by unfold U; split <;> omega
/-- .. and so many downs. -/
def D (u j : Nat) : Nat := if 15 ≤ u then 15 else u - j
theorem D_zero (u : Nat) : D u 0 = U u := by unfold D U; split <;> omega
theorem D_next (u j : Nat) : (if 0 < D u j ∧ D u j < 15 then D u j - 1 else D u j) = D u (j + 1) := by unfold D; split <;> split <;> omega
end Sticks
open Sticks

theorem nibbleSticks_out (a u d : Int) (h : ¬ (0 ≤ a ∧ a ≤ 40 ∧ 0 ≤ u ∧ u ≤ 60 ∧ 0 ≤ d ∧ d ≤ 60)) (W : World) :
    Calls Try.prog 8 #[.int .i64 a, .int .i64 u, .int .i64 d] W fun e W' => e = .returned (.bool true) ∧ Below W.heap.size W W' := by
  go_enter Try.func8, Try.ntmps8
  go_wp2_with fail
  refine (nib_alive _).mono ?_
  rintro e w1 ⟨rfl, hb⟩
  go_wp2_with fail
  all_goals (go_ret; exact ⟨rfl, hb⟩)

/-- The state in the loops: the counters, and what may have turned. -/
def StickAt (W wr : World) (g q : Nat) (c : List Nat) : Prop := NibAt wr g q c ∧ Below W.heap.size W wr
theorem StickAt.up {W w w' : World} {g q : Nat} {c c' : List Nat} (H : StickAt W w g q c) (h : NibAt w' g q c') (k : Chg (· = q) w w') (hq : W.heap.size ≤ q) : StickAt W w' g q c' :=
  ⟨h, H.2.trans (k.below H.2.size (by omega))⟩

def LessThan (n : Nat) (i : Value) : Prop := ∃ i' : Nat, i' ≤ n ∧ i = .int .i64 i'

set_option maxHeartbeats 1000000 in
theorem nibbleSticks_in (a u d : Nat) (ha : a ≤ 40) (hu : u ≤ 60) (hd : d ≤ 60) (W : World) :
    Calls Try.prog 8 #[.int .i64 a, .int .i64 u, .int .i64 d] W fun e W' => e = .returned (.bool true) ∧ Below W.heap.size W W' := by
  have hcap : capN 41 = 41 := by decide
  go_enter Try.func8, Try.ntmps8
  go_wp2_with fail
  refine (nib_alive _).mono ?_
  rintro e w1 ⟨rfl, hb⟩
  go_wp2_with fail
  refine (nib_make _ _).mono ?_
  rintro e w2 ⟨g, q, rfl, hg, hq, hne, H, hb2⟩
  rw [hcap, ← N0_zero 41 a] at H
  clear hcap
  have HS : StickAt W w2 g q (N0 41 a 0) := ⟨H, hb.trans (hb2.mono hb.size)⟩
  have hq' : W.heap.size ≤ q := Nat.le_trans hb.size hq
  clear H hb2 hg hq hne hb
  go_wp2_with fail
  go_loopw [9] (fun i wr => ∃ k : Nat, k ≤ u ∧ i = .int .i64 k ∧ StickAt W wr g q (N0 41 a (U k))) (fun i _ => u - (intOf i).toNat)
  case atStart => exact ⟨0, Nat.zero_le _, rfl, HS⟩
  case round =>
    obtain ⟨k, hk, rfl, HS⟩ := hrel
    by_cases hlt : k < u
    · go_wp2_with fail
      refine (nib_up HS.1 _).mono ?_
      rintro e w3 ⟨rfl, H3, hc3⟩
      rw [up_next _ _ _ (by omega), U_next] at H3
      have HS3 := HS.up H3 hc3 hq'
      clear H3 hc3 HS
      go_wp2_with fail
      go_roundw
      case rel => exact ⟨k + 1, by omega, by go_num, HS3⟩
      case measure => simp [intOf]; omega
    · obtain rfl : k = u := by omega
      rw [← D_zero] at HS
      clear hlt hk
      go_wp2_with fail
      go_loopw [10] (fun i wr => ∃ j : Nat, j ≤ d ∧ i = .int .i64 j ∧ StickAt W wr g q (N0 41 a (D k j))) (fun i _ => d - (intOf i).toNat)
      case atStart => exact ⟨0, Nat.zero_le _, rfl, HS⟩
      case round =>
        clear HS
        obtain ⟨j, hj, rfl, HS⟩ := hrel
        by_cases hlt : j < d
        · go_wp2_with fail
          refine (nib_down HS.1 _).mono ?_
          rintro e w3 ⟨rfl, H3, hc3⟩
          rw [down_next _ _ _ (by omega), D_next] at H3
          have HS3 := HS.up H3 hc3 hq'
          clear H3 hc3 HS
          go_wp2_with fail
          go_roundw
          case rel => exact ⟨j + 1, by omega, by go_num, HS3⟩
          case measure => simp [intOf]; omega
        · obtain rfl : j = d := by omega
          clear hlt hj
          have HD : Hid _ := hid (show D k j = if 15 ≤ k then 15 else k - j from rfl)
          generalize D k j = v at HS HD
          obtain ⟨X, hX, hXv⟩ : ∃ X : Int, X = (v : Int) ∧ X = if 15 ≤ (k : Int) then 15 else if (k : Int) - j < 0 then 0 else (k : Int) - j := by
            refine ⟨v, rfl, ?_⟩
            have := HD.out
            split at this <;> split <;> (try split) <;> omega
          obtain ⟨Y, hY, hYv⟩ : ∃ Y : Int, (fulls (N0 41 a v) : Int) = Y ∧ Y = if 15 ≤ (k : Int) then 1 else 0 := by
            refine ⟨_, rfl, ?_⟩
            rw [fulls_one _ _ _ (by omega)]
            have := HD.out
            split at this <;> split <;> (try split) <;> omega
          have HX := hid hX
          have HY := hid hY
          clear hX hY HD
          have hb := hid HS.2
          have hX0 : 15 ≤ (k : Int) ∧ (k : Int) - j < 0 ∧ X = 15 ∧ Y = 1 ∨ 15 ≤ (k : Int) ∧ ¬ (k : Int) - j < 0 ∧ X = 15 ∧ Y = 1 ∨ ¬ 15 ≤ (k : Int) ∧ (k : Int) - j < 0 ∧ X = 0 ∧ Y = 0 ∨ ¬ 15 ≤ (k : Int) ∧ ¬ (k : Int) - j < 0 ∧ X = (k : Int) - j ∧ Y = 0 := by
            rw [hXv, hYv]; split <;> (try split) <;> omega
          clear hXv hYv
          rcases hX0 with ⟨h15, hneg, rfl, rfl⟩ | ⟨h15, hneg, rfl, rfl⟩ | ⟨h15, hneg, rfl, rfl⟩ | ⟨h15, hneg, rfl, rfl⟩
          all_goals
            go_wp2_with fail
            all_goals
              go_loop [12] (fun i => LessThan 41 i) (fun i => 41 - (intOf i).toNat)
            all_goals try (case atStart => exact ⟨0, by omega, rfl⟩)
            all_goals
              obtain ⟨i, hi, rfl⟩ := hrel
              by_cases hlt : i < 41
              · by_cases he : i = a
                · subst he
                  go_wp2_with fail
                  go_round
                  case rel => exact ⟨i + 1, by omega, by go_num⟩
                  case measure => simp [intOf]; omega
                · go_wp2_with fail
                  refine (nib_at' HS.1 _ 0 (by rw [at_other _ _ _ _ he]; rfl)).mono ?_
                  rintro e w3 ⟨rfl, rfl⟩
                  go_wp2_with fail
                  go_round
                  case rel => exact ⟨i + 1, by omega, by go_num⟩
                  case measure => simp [intOf]; omega
              · go_wp2_with fail
                refine (nib_at' HS.1 _ _ ((congrArg (Nat.cast : Nat → Int) (at_same 41 a v (by omega))).trans HX.out.symm)).mono ?_
                rintro e w3 ⟨rfl, rfl⟩
                go_wp2_with fail
                refine (nib_fulls' HS.1 _ HY.out).mono ?_
                rintro e w3 ⟨rfl, rfl⟩
                go_wp2_with fail
                go_ret
                refine ⟨?_, hb.out⟩
                first
                  | rfl
                  | (show Ending.returned (Value.bool (!decide (15 ≤ (k : Int)))) = _; rw [decide_eq_false (by omega)]; rfl)

theorem nibbleSticks_walk (a : Int) (wa : (Lit.int .i64 a).wf = true) (u : Int) (wu : (Lit.int .i64 u).wf = true) (d : Int) (wd : (Lit.int .i64 d).wf = true) (W : World) :
    Calls Try.prog 8 #[.int .i64 a, .int .i64 u, .int .i64 d] W fun e W' => e = .returned (.bool true) ∧ Below W.heap.size W W' := by
  by_cases h : 0 ≤ a ∧ a ≤ 40 ∧ 0 ≤ u ∧ u ≤ 60 ∧ 0 ≤ d ∧ d ≤ 60
  · obtain ⟨h1, h2, h3, h4, h5, h6⟩ := h
    obtain ⟨a, rfl⟩ := Int.eq_ofNat_of_zero_le h1
    obtain ⟨u, rfl⟩ := Int.eq_ofNat_of_zero_le h3
    obtain ⟨d, rfl⟩ := Int.eq_ofNat_of_zero_le h5
    exact nibbleSticks_in a u d (by omega) (by omega) (by omega) W
  · exact nibbleSticks_out a u d h W

end Go.Proofs.Ytgmknnmcanbfeaa
