/-
  The walk of the law PickBelow, and of the example of package pick: for all numbers it returns true and leaves memory alone. No condition.
-/
import Derived.Test.YtgmknnmcanbfeaaPick
namespace Go.Proofs.Ytgmknnmcanbfeaa
open Go.RowKit
set_option linter.unusedVariables false
set_option linter.unusedSimpArgs false
set_option maxRecDepth 100000

theorem redI_one (x : Nat) (hx : x < 2 ^ 64) : redI x 1 = 0 := by
  unfold redI redN; rw [if_neg (by omega)]
  rw [show (1 : Int).toNat = 1 from rfl, Nat.mul_one, Nat.div_eq_of_lt hx]

theorem pick_alive (w : World) : Calls Try.prog 35 #[] w fun e w' => e = .returned (.bool true) ∧ Below w.heap.size w w' := by
  have c1 := hid fun w => pick_places 1 (by decide) ((0, 0), 0) ⟨by decide, by decide⟩ 2 1 (by decide) w
  have e1 : placesN 1 ((0, 0), 0) 2 1 = [0, 0] := by
    unfold placesN; rw [if_neg (by decide)]
    show placesOf 1 ((0, 0), 0) 2 1 = [0, 0]
    unfold placesOf
    simp only [List.range_succ, List.range_zero, List.nil_append, List.map_append, List.map_cons, List.map_nil, List.cons_append]
    rw [redI_one _ (stepN_lt _ _ _), redI_one _ (stepN_lt _ _ _)]
  rw [e1] at c1
  have c2 := hid fun w => still_of (Calls.mono (pick_reduce 0 (by decide) 9 (by decide) w) fun _ _ h => h)
  have r2 : redI 0 9 = 0 := by decide
  have c3 := hid fun w => pick_reduce 0 (by decide) 9 (by decide) w
  have c4 := hid fun w => pick_reduce 9223372036854775808 (by decide) 2 (by decide) w
  have r4 : redI 9223372036854775808 2 = 1 := by decide
  rw [r2] at c3
  rw [r4] at c4
  clear c2 r2 r4 e1
  go_enter Try.func35, Try.ntmps35
  go_wp2_with fail
  refine (c1.out _).mono ?_
  rintro _ w1 ⟨v, rfl, hO, hB⟩
  obtain ⟨A, cap, rfl, hnc, hcm, hform⟩ := hO.form
  obtain ⟨g, rfl, hg1, hg2, hcells⟩ := hform (by decide)
  have s0 : w1.cell? ⟨g, 0, none⟩ = some (.int .i64 0) := hcells 0 (by decide)
  clear hcells hO
  go_wp2_with fail
  refine (c3.out _).mono ?_
  rintro _ w2 ⟨rfl, rfl⟩
  go_wp2_with fail
  refine (c4.out _).mono ?_
  rintro _ w2 ⟨rfl, rfl⟩
  go_wp2_with fail
  go_ret
  exact ⟨rfl, hB⟩

theorem red_top (m : Nat) (h0 : 1 ≤ m) (h1 : m ≤ 9223372036854775807) : redI 18446744073709551615 (m : Int) = m - 1 := by
  unfold redI redN; rw [if_neg (by omega), Int.toNat_natCast]
  have : 18446744073709551615 * m = 2 ^ 64 * (m - 1) + (2 ^ 64 - m) := by omega
  rw [this, Nat.mul_add_div (by decide), Nat.div_eq_of_lt (by omega), Nat.add_zero]

theorem pickBelow_walk (W : World) (x0 : Int) (wx : (Lit.int .u64 x0).wf = true) (y0 : Int) (wy : (Lit.int .u64 y0).wf = true) (m : Int) (wm : (Lit.int .i64 m).wf = true) :
    Calls Try.prog 9 #[.int .u64 x0, .int .u64 y0, .int .i64 m] W fun e W' => e = .returned (.bool true) ∧ Below W.heap.size W W' := by
  simp [Lit.wf, IntKind.min, IntKind.max, IntKind.signed, IntKind.bits] at wx wy wm
  obtain ⟨x, rfl⟩ := Int.eq_ofNat_of_zero_le wx.1
  obtain ⟨y, rfl⟩ := Int.eq_ofNat_of_zero_le wy.1
  by_cases hm : m < 1
  · clear wx wy wm
    go_enter Try.func9, Try.ntmps9
    go_wp2_with fail
    refine (pick_alive _).mono ?_
    rintro _ w1 ⟨rfl, hb⟩
    go_wp2_with fail
    go_ret
    exact ⟨rfl, hb⟩
  · obtain ⟨k, rfl⟩ := Int.eq_ofNat_of_zero_le (show 0 ≤ m by omega)
    have hx : x < 2 ^ 64 := by omega
    have hy : y < 2 ^ 64 := by omega
    have c1 := hid fun w => pick_reduce x hx k (by omega) w
    have c2 := hid fun w => pick_reduce y hy k (by omega) w
    have c3 : Hid (∀ w, Calls Try.prog 36 #[.int .u64 18446744073709551615, .int .i64 (k : Int)] w fun e w' => e = .returned (.int .i64 ((k - 1 : Nat) : Int)) ∧ w = w') :=
      hid fun w => by have := pick_reduce 18446744073709551615 (by decide) k (by omega) w; rw [red_top k (by omega) (by omega)] at this; exact this
    have l1 : redI x (k : Int) < k := by unfold redI; rw [if_neg hm]; exact redN_lt hx (by omega)
    have l2 : redI y (k : Int) < k := by unfold redI; rw [if_neg hm]; exact redN_lt hy (by omega)
    have hmono : x ≤ y → redI x (k : Int) ≤ redI y (k : Int) := fun h => by unfold redI; rw [if_neg hm, if_neg hm]; exact redN_mono _ h
    generalize redI x (k : Int) = r1 at c1 l1 hmono
    generalize redI y (k : Int) = r2 at c2 l2 hmono
    have hk1 : 1 ≤ k := by omega
    have hkm : k ≤ 9223372036854775807 := by omega
    have he : ((k - 1 : Nat) : Int) = (k : Int) - 1 := by omega
    rw [he] at c3
    clear he wx wy wm hx hy
    by_cases hxy : x ≤ y
    · have hle := hmono hxy
      clear hmono
      go_enter Try.func9, Try.ntmps9
      go_wp2_with fail
      refine (pick_alive _).mono ?_
      rintro _ w1 ⟨rfl, hb⟩
      go_wp2_with (first
        | (with_reducible refine (c1.out _).mono ?_; rintro _ w2 ⟨rfl, rfl⟩)
        | (with_reducible refine (c2.out _).mono ?_; rintro _ w2 ⟨rfl, rfl⟩)
        | (with_reducible refine (c3.out _).mono ?_; rintro _ w2 ⟨rfl, rfl⟩))
      go_ret
      exact ⟨ret_bool (by simp; try omega), hb⟩
    · clear hmono
      go_enter Try.func9, Try.ntmps9
      go_wp2_with fail
      refine (pick_alive _).mono ?_
      rintro _ w1 ⟨rfl, hb⟩
      go_wp2_with (first
        | (with_reducible refine (c1.out _).mono ?_; rintro _ w2 ⟨rfl, rfl⟩)
        | (with_reducible refine (c2.out _).mono ?_; rintro _ w2 ⟨rfl, rfl⟩)
        | (with_reducible refine (c3.out _).mono ?_; rintro _ w2 ⟨rfl, rfl⟩))
      go_ret
      exact ⟨ret_bool (by simp; try omega), hb⟩

end Go.Proofs.Ytgmknnmcanbfeaa
