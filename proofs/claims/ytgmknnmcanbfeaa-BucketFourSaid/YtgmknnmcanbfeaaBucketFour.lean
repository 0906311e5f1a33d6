/-
  The walk of the law BucketFour: for all numbers it returns true and leaves memory alone. No condition.
-/
import Derived.Test.YtgmknnmcanbfeaaBuckFour
namespace Go.Proofs.Ytgmknnmcanbfeaa
open Go.RowKit
set_option linter.unusedVariables false
set_option linter.unusedSimpArgs false
set_option maxRecDepth 100000

namespace BF
/-- The places behind so many puts. -/
def S (k : Nat) : List Plc := (List.range 4).map fun i => if i < k then (true, ((0, 0), (i : Int)), (i : Int)) else plc0
def putS (ps : List Plc) (p : Pf) (v : Int) : List Plc := if 0 ≤ putI ps p then ps.set (putI ps p).toNat (true, p, v) else ps
def takeS (ps : List Plc) (p : Pf) : List Plc := if 0 ≤ findP ps p 0 then ps.set (findP ps p 0).toNat (false, ((0, 0), 0), 0) else ps
theorem step : ∀ k : Fin 8, decide (0 ≤ putI (S k.val) ((0, 0), (k.val : Int))) = decide (k.val < 4) ∧ putS (S k.val) ((0, 0), (k.val : Int)) (k.val : Int) = S (k.val + 1) := by decide
theorem take : ∀ n : Fin 9, ∀ g : Fin 4, decide (0 ≤ findP (S n.val) ((0, 0), (g.val : Int)) 0) = decide (g.val < n.val) := by decide
/-- What All tells at the end, and where the last key stands. -/
def last (n g : Nat) : List Plc := putS (takeS (S n) ((0, 0), (g : Int))) ((0, 0), 99) 99
def pos (n g : Nat) : Nat := if n ≤ g then n else g
theorem fin : ∀ n : Fin 9, ∀ g : Fin 4, pos n.val g.val < (allP (last n.val g.val)).length ∧ ((allP (last n.val g.val)).getD (pos n.val g.val) plc0).2.2 = 99 := by decide
theorem allV_hop : ∀ (l : List Plc) (j : Nat), j < l.length → (l.flatMap rtEn)[j * 4 + 3]? = some (.int .i64 (l.getD j plc0).2.2)
  | [], _, h => by simp at h
  | x :: xs, 0, _ => rfl
  | x :: xs, j + 1, h => by
    have ih := allV_hop xs j (by simpa using h)
    rw [List.flatMap_cons, List.getElem?_append_right (by simp [rtEn]; omega)]
    rw [show (j + 1) * 4 + 3 - (rtEn x).length = j * 4 + 3 by simp [rtEn]; omega, ih]
    simp
theorem out (n g : Int) (h : ¬ (0 ≤ n ∧ n ≤ 8 ∧ 0 ≤ g ∧ g ≤ 3)) (W : World) :
    Calls Try.prog 12 #[.int .i64 n, .int .i64 g] W fun e W' => e = .returned (.bool true) ∧ Below W.heap.size W W' := by
  go_enter Try.func12, Try.ntmps12
  go_wp2_with fail
  refine (buck_alive _).mono ?_
  rintro e w1 ⟨rfl, hb⟩
  go_wp2_with fail
  all_goals (go_ret; exact ⟨rfl, hb⟩)
def Rel (W : World) (b n : Nat) (i : Value) (wr : World) : Prop := ∃ k : Nat, k ≤ n ∧ i = .int .i64 k ∧ Buck wr b (S k) ∧ Below W.heap.size W wr
set_option maxHeartbeats 1000000 in
theorem inn (n g : Nat) (hn : n ≤ 8) (hg : g ≤ 3) (W : World) :
    Calls Try.prog 12 #[.int .i64 n, .int .i64 g] W fun e W' => e = .returned (.bool true) ∧ Below W.heap.size W W' := by
  go_enter Try.func12, Try.ntmps12
  go_wp2_with fail
  refine (buck_alive _).mono ?_
  rintro e w1 ⟨rfl, hb⟩
  have H0 : Buck (w1.alloc (.cells (([plc0, plc0, plc0, plc0].flatMap plcEn).toArray) 64)) w1.heap.size (S 0) := ⟨Blk.new_at w1 _ 64 _ rfl, rfl⟩
  have hb0 : Below W.heap.size W (w1.alloc (.cells (([plc0, plc0, plc0, plc0].flatMap plcEn).toArray) 64)) := hb.alloc hb.size _
  have HH0 := hid H0
  have HB0 := hid hb0
  have hsz : W.heap.size ≤ w1.heap.size := hb.size
  clear H0 hb0 hb
  go_wp2_with fail
  go_loopw [7] (fun i wr => Rel W w1.heap.size n i wr) (fun i _ => n - (intOf i).toNat)
  case atStart => exact ⟨0, Nat.zero_le _, rfl, HH0.out, HB0.out⟩
  case round =>
    obtain ⟨k, hk, rfl, HB, hb⟩ := hrel
    generalize w1.heap.size = b at *
    by_cases hlt : k < n
    · have c := buck_put HB ((0, 0), (k : Int)) (k : Int)
      obtain ⟨s1, s2⟩ := step ⟨k, by omega⟩
      simp only at s1 s2
      rw [s1] at c
      unfold putS at s2
      rw [s2] at c
      have HC := hid c
      have HB1 := hid hb
      clear c s1 s2 hb HB
      have h4 : k < 4 ∨ ¬ k < 4 := by omega
      have hdd : decide ((k : Int) < 4) = decide (k < 4) := decide_eq_decide.2 (by omega)
      rcases h4 with h4 | h4
      all_goals
        go_wp2_with fail
        refine HC.out.mono ?_
        rintro e w2 ⟨rfl, H2, hc2⟩
        have hB2 : Below W.heap.size W w2 := HB1.out.trans (hc2.below HB1.out.size (by omega))
        have HB2 := hid hB2
        first | rw [decide_eq_true h4] at hdd ⊢ | rw [decide_eq_false h4] at hdd ⊢
        clear hc2 hB2
        go_wp2_with fail
        go_roundw
        case rel => exact ⟨k + 1, by omega, by go_num, H2, HB2.out⟩
        case measure => simp [intOf]; omega
    · obtain rfl : k = n := by omega
      have c := buck_take HB ((0, 0), (g : Int))
      have s1 := take ⟨k, by omega⟩ ⟨g, by omega⟩
      simp only at s1
      rw [s1] at c
      have HC := hid c
      have HB1 := hid hb
      clear c s1 hb HB hlt
      have hcase : (g < k ∧ pos k g = g) ∨ (¬ g < k ∧ pos k g = k) := by unfold pos; split <;> omega
      have hdd : decide ((g : Int) < (k : Int)) = decide (g < k) := decide_eq_decide.2 (by omega)
      rcases hcase with ⟨h4, hp⟩ | ⟨h4, hp⟩
      all_goals
        have HPP := hid hp
        clear hp
        go_wp2_with fail
        refine HC.out.mono ?_
        rintro e w2 ⟨rfl, H2, hc2⟩
        have hB2 : Below W.heap.size W w2 := HB1.out.trans (hc2.below HB1.out.size (by omega))
        have HB2 := hid hB2
        first | rw [decide_eq_true h4] at hdd ⊢ | rw [decide_eq_false h4] at hdd ⊢
        have c2 := buck_put H2 ((0, 0), 99) 99
        have HC2 := hid c2
        clear hc2 hB2 c2
        go_wp2_with fail
        refine HC2.out.mono ?_
        rintro e w3 ⟨rfl, H3, hc3⟩
        have hB3 : Below W.heap.size W w3 := HB2.out.trans (hc3.below HB2.out.size (by omega))
        have HB3 := hid hB3
        have H3' : Buck w3 b (last k g) := H3
        have c3 := hid (buck_all H3')
        clear H3 H3'
        clear hc3 hB3
        go_wp2_with fail
        all_goals
          refine c3.out.mono ?_
          rintro e w4 ⟨v, rfl, hO, hb4⟩
          obtain ⟨A, cap, rfl, hnc, hcm, hform⟩ := hO.form
          obtain ⟨f1, f2⟩ := fin ⟨k, by omega⟩ ⟨g, by omega⟩
          simp only at f1 f2
          clear c3 hO
          generalize last k g = L at *
          obtain ⟨gb, rfl, hgb, hgl, hcell⟩ := hform (by omega)
          have hv := allV_hop (allP L) (pos k g) f1
          rw [f2] at hv
          have hc := (hcell (pos k g * 4 + 3) (by omega)).trans hv
          rw [HPP.out] at hc f1
          have hbB := hid (HB3.out.trans (hb4.mono HB3.out.size))
          generalize (allP L).length = ln at *
          clear hform hcell hv hb4 f2
          go_wp2_with fail
          go_ret
          exact ⟨rfl, hbB.out⟩
end BF
theorem bucketFour_walk (W : World) (n : Int) (wn : (Lit.int .i64 n).wf = true) (g : Int) (wg : (Lit.int .i64 g).wf = true) :
    Calls Try.prog 12 #[.int .i64 n, .int .i64 g] W fun e W' => e = .returned (.bool true) ∧ Below W.heap.size W W' := by
  by_cases h : 0 ≤ n ∧ n ≤ 8 ∧ 0 ≤ g ∧ g ≤ 3
  · obtain ⟨h1, h2, h3, h4⟩ := h
    obtain ⟨n, rfl⟩ := Int.eq_ofNat_of_zero_le h1
    obtain ⟨g, rfl⟩ := Int.eq_ofNat_of_zero_le h3
    exact BF.inn n g (by omega) (by omega) W
  · exact BF.out n g h W
end Go.Proofs.Ytgmknnmcanbfeaa
