/-
  The law DeltaBack: what turns there turns back. No condition.
-/
import Derived.Test.YtcchjljdhjkmeaaDeltaLaw
namespace Go.Proofs.Ytcchjljdhjkmeaa
open Go.RowKit
set_option linter.unusedVariables false
set_option linter.unusedSimpArgs false
set_option maxRecDepth 100000
attribute [local go_sem high] eq_ad eq_pf

theorem deltaBack_out (W : World) (A : Option Addr) (n cap : Nat) (hn : n ≤ cap) (hc : cap ≤ maxLen) (B : Option Addr) (m cap2 : Nat) (hm : m ≤ cap2) (hc2 : cap2 ≤ maxLen) (h : ¬ (n ≤ 40 ∧ m ≤ 40)) :
    Calls Try.prog 5 #[.slice A n cap, .slice B m cap2] W fun e W' => e = .returned (.bool true) ∧ Below W.heap.size W W' := by
  unfold maxLen at hc hc2
  go_enter Try.func5, Try.ntmps5
  go_wp2_with fail
  refine (delta_alive _).mono ?_
  rintro _ w1 ⟨rfl, hb⟩
  have HB := hid hb
  clear hb
  by_cases h1 : n ≤ 40
  · have c1 : ¬ (n : Int) > 40 := by omega
    have c2 : (m : Int) > 40 := by omega
    clear h h1
    go_wp2_with fail
    go_ret
    exact ⟨rfl, HB.out⟩
  · have c1 : (n : Int) > 40 := by omega
    clear h h1
    go_wp2_with fail
    go_ret
    exact ⟨rfl, HB.out⟩

def DbRel (w4 : World) (n : Nat) (i : Value) (wr : World) : Prop := ∃ j : Nat, j ≤ n ∧ i = .int .i64 j ∧ Below w4.heap.size w4 wr
set_option maxHeartbeats 8000000 in
theorem deltaBack_in (W : World) (v1 : Value) (l1 : List Rt) (R1 : Rd rtEn 4 W v1 l1) (v2 : Value) (l2 : List Rt) (R2 : Rd rtEn 4 W v2 l2) (h1 : l1.length ≤ 40) (h2 : l2.length ≤ 40) :
    Calls Try.prog 5 #[v1, v2] W fun e W' => e = .returned (.bool true) ∧ Below W.heap.size W W' := by
  have cA := hid (delta_alive W)
  have cX := hid (fun (w' : World) (h : Below W.heap.size W w') => delta_of w' v1 v2 l1 l2 (R1.below rtEn_length h) (R2.below rtEn_length h) (by omega) (by omega))
  have cY := hid (fun (w' : World) (h : Below W.heap.size W w') => delta_of w' v2 v1 l2 l1 (R2.below rtEn_length h) (R1.below rtEn_length h) (by omega) (by omega))
  have cZ := hid (fun (w' : World) (h : Below W.heap.size W w') => delta_of w' v1 v1 l1 l1 (R1.below rtEn_length h) (R1.below rtEn_length h) (by omega) (by omega))
  have e1 := merge_self (sortedL l1)
  have e2 := merge_back (sortedL l1) (sortedL l2)
  rw [e1] at cZ
  rw [e2] at cY
  have HO := hid (merge_sorted (sorted_ord l1) (sorted_ord l2))
  have HLN := hid (show (mergeD (sortedL l1) (sortedL l2)).length ≤ 80 from by have := mergeD_len _ (sortedL l1) (sortedL l2) (Nat.le_refl _); have := sorted_le l1; have := sorted_le l2; omega)
  generalize mergeD (sortedL l1) (sortedL l2) = D at cX cY HO HLN
  clear e1 e2
  obtain ⟨A, cap, rfl, n1, m1⟩ := R1.form
  obtain ⟨B, cap2, rfl, n2, m2⟩ := R2.form
  unfold maxLen at m1 m2
  clear R1 R2
  have c1 : ¬ (l1.length : Int) > 40 := by omega
  have c2 : ¬ (l2.length : Int) > 40 := by omega
  generalize l1.length = n at *
  generalize l2.length = m at *
  have hg := guard_pf
  go_enter Try.func5, Try.ntmps5
  go_wp2_with fail
  refine cA.out.mono ?_
  rintro _ w1 ⟨rfl, hb1⟩
  have HB1 := hid hb1
  clear hb1 cA
  go_wp2_with fail
  refine (cX.out _ HB1.out).mono ?_
  rintro _ w2 ⟨vx, rfl, hOx, hb2⟩
  have HB2 := hid (held_next HB1.out hb2)
  have HX2 := hid (Rd.of_owns hOx chgEn_len)
  clear hb2 hOx cX HB1
  go_wp2_with fail
  refine (cY.out _ HB2.out).mono ?_
  rintro _ w3 ⟨vy, rfl, hOy, hb3⟩
  have HB3 := hid (held_next HB2.out hb3)
  have HX3 := hid (HX2.out.below chgEn_len hb3)
  have HY3 := hid (Rd.of_owns hOy chgEn_len)
  clear hb3 hOy cY HX2 HB2
  obtain ⟨Ax, cx, rfl, x1, x2⟩ := HX3.out.form
  obtain ⟨Ay, cy, rfl, y1, y2⟩ := HY3.out.form
  unfold maxLen at x2 y2
  have hly : (D.map flipC).length = D.length := List.length_map ..
  rw [hly] at HY3 y1 ⊢
  clear hly
  obtain ⟨N, hN⟩ : ∃ N, D.length = N := ⟨_, rfl⟩
  have hn80 := HLN.out
  rw [hN] at HX3 HY3 x1 y1 hn80 ⊢
  have HN := hid hN
  clear hN HLN
  have cZ3 := hid (cZ.out _ HB3.out)
  clear cZ
  go_wp2_with fail
  refine cZ3.out.mono ?_
  rintro _ w4 ⟨vz, rfl, hOz, hb4⟩
  have HB4 := hid (held_next HB3.out hb4)
  have HX := hid (HX3.out.below chgEn_len hb4)
  have HY := hid (HY3.out.below chgEn_len hb4)
  obtain ⟨Az, cz, rfl, _⟩ := hOz.form
  clear hb4 hOz cZ3 HX3 HY3 HB3
  go_wp2_with fail
  go_loopw [8] (fun i wr => DbRel w4 N i wr) (fun i _ => N - (intOf i).toNat)
  case atStart => exact ⟨0, Nat.zero_le _, rfl, Below.refl _ _⟩
  case round =>
    obtain ⟨j, hj, rfl, hB⟩ := hrel
    have HB := hid hB
    by_cases hjn : j < N
    · obtain ⟨c, hc⟩ : ∃ c, D[j]? = some c := ⟨_, List.getElem?_eq_getElem (by rw [HN.out]; exact hjn)⟩
      have hcy : (D.map flipC)[j]? = some (flipC c) := by rw [List.getElem?_map, hc]; rfl
      obtain ⟨bx, ox, qx, hvx, _, _, lx, sx⟩ := HX.out.get chgEn_len (by decide) hc
      obtain ⟨by', oy, qy, hvy, _, _, ly, sy⟩ := HY.out.get chgEn_len (by decide) hcy
      injection hvx with a1 a2 a3
      subst a1 a3
      injection hvy with b1 b2 b3
      subst b1 b3
      have HCX := hid (fun (w' : World) (h : Below w4.heap.size w4 w') => cell5 lx sx h)
      have HCY := hid (fun (w' : World) (h : Below w4.heap.size w4 w') => cell5 ly sy h)
      have j0 : (0 : Int) ≤ (j : Int) := by omega
      have j1 : (j : Int) < (N : Int) := by omega
      have hNI : (N : Int) ≤ 80 := by omega
      clear sy ly hB a2 b2
      obtain ⟨⟨⟨k1, k2⟩, k3⟩, o, m'⟩ := c
      by_cases hj0 : j = 0
      · have z1 : ¬ (0 : Int) < (j : Int) := by omega
        have z2 : decide ((0 : Int) < (j : Int)) = false := decide_eq_false z1
        have z3 : ¬ 0 < j := by omega
        have z4 : decide (0 < j) = false := decide_eq_false z3
        clear sx lx hc hcy hj0
        go_wp2_with fail
        have hS : (wr.drew.cell? ⟨bx, ox + j * 5, none⟩ = some (.int .u64 (k1 : Int)) ∧ wr.drew.cell? ⟨bx, ox + j * 5 + 1, none⟩ = some (.int .u64 (k2 : Int)) ∧ wr.drew.cell? ⟨bx, ox + j * 5 + 2, none⟩ = some (.int .i64 k3) ∧ wr.drew.cell? ⟨bx, ox + j * 5 + 3, none⟩ = some (.int .i64 o) ∧ wr.drew.cell? ⟨bx, ox + j * 5 + 4, none⟩ = some (.int .i64 m')) ∧ (wr.drew.cell? ⟨by', oy + j * 5, none⟩ = some (.int .u64 (k1 : Int)) ∧ wr.drew.cell? ⟨by', oy + j * 5 + 1, none⟩ = some (.int .u64 (k2 : Int)) ∧ wr.drew.cell? ⟨by', oy + j * 5 + 2, none⟩ = some (.int .i64 k3) ∧ wr.drew.cell? ⟨by', oy + j * 5 + 3, none⟩ = some (.int .i64 m') ∧ wr.drew.cell? ⟨by', oy + j * 5 + 4, none⟩ = some (.int .i64 o)) := ⟨HCX.out _ HB.out.drew, HCY.out _ HB.out.drew⟩
        refine wp_region_ord (fun w' => (w'.cell? ⟨bx, ox + j * 5, none⟩ = some (.int .u64 (k1 : Int)) ∧ w'.cell? ⟨bx, ox + j * 5 + 1, none⟩ = some (.int .u64 (k2 : Int)) ∧ w'.cell? ⟨bx, ox + j * 5 + 2, none⟩ = some (.int .i64 k3) ∧ w'.cell? ⟨bx, ox + j * 5 + 3, none⟩ = some (.int .i64 o) ∧ w'.cell? ⟨bx, ox + j * 5 + 4, none⟩ = some (.int .i64 m')) ∧ (w'.cell? ⟨by', oy + j * 5, none⟩ = some (.int .u64 (k1 : Int)) ∧ w'.cell? ⟨by', oy + j * 5 + 1, none⟩ = some (.int .u64 (k2 : Int)) ∧ w'.cell? ⟨by', oy + j * 5 + 2, none⟩ = some (.int .i64 k3) ∧ w'.cell? ⟨by', oy + j * 5 + 3, none⟩ = some (.int .i64 m') ∧ w'.cell? ⟨by', oy + j * 5 + 4, none⟩ = some (.int .i64 o))) (by kernel_rfl) hS ?_
        refine ord_still 0 rfl (v := ?_) (by kernel_rfl) (fun _ _ _ h => h) rfl (fun W hW => ?_) hS ?_
        rotate_left
        · try dsimp only at hW
          go_simp
          try with_reducible rfl
        simp only [Act.put, List.setIfInBounds_toArray, List.set_cons_zero, List.set_cons_succ]
        refine ord_still 1 rfl (v := ?_) (by kernel_rfl) (fun _ _ _ h => h) rfl (fun W hW => ?_) hS ?_
        rotate_left
        · try dsimp only at hW
          go_simp
          try with_reducible rfl
        simp only [Act.put, List.setIfInBounds_toArray, List.set_cons_zero, List.set_cons_succ]
        refine ord_still 2 rfl (v := ?_) (by kernel_rfl) (fun _ _ _ h => h) rfl (fun W hW => ?_) hS ?_
        rotate_left
        · try dsimp only at hW
          go_simp
          try with_reducible rfl
        simp only [Act.put, List.setIfInBounds_toArray, List.set_cons_zero, List.set_cons_succ]
        refine ord_still 3 rfl (v := ?_) (by kernel_rfl) (fun _ _ _ h => h) rfl (fun W hW => ?_) hS ?_
        rotate_left
        · try dsimp only at hW
          go_simp
          try with_reducible rfl
        simp only [Act.put, List.setIfInBounds_toArray, List.set_cons_zero, List.set_cons_succ]
        refine ord_still 4 rfl (v := ?_) (by kernel_rfl) (fun _ _ _ h => h) rfl (fun W hW => ?_) hS ?_
        rotate_left
        · try dsimp only at hW
          go_simp
          try with_reducible rfl
        simp only [Act.put, List.setIfInBounds_toArray, List.set_cons_zero, List.set_cons_succ]
        refine ord_still 5 rfl (v := ?_) (by kernel_rfl) (fun _ _ _ h => h) rfl (fun W hW => ?_) hS ?_
        rotate_left
        · try dsimp only at hW
          go_simp
          try with_reducible rfl
        simp only [Act.put, List.setIfInBounds_toArray, List.set_cons_zero, List.set_cons_succ]
        refine ord_still 6 rfl (v := ?_) (by kernel_rfl) (fun _ _ _ h => h) rfl (fun W hW => ?_) hS ?_
        rotate_left
        · try dsimp only at hW
          go_simp
          try with_reducible rfl
        simp only [Act.put, List.setIfInBounds_toArray, List.set_cons_zero, List.set_cons_succ]
        refine ord_still 7 rfl (v := ?_) (by kernel_rfl) (fun _ _ _ h => h) rfl (fun W hW => ?_) hS ?_
        rotate_left
        · try dsimp only at hW
          go_simp
          try with_reducible rfl
        simp only [Act.put, List.setIfInBounds_toArray, List.set_cons_zero, List.set_cons_succ]
        refine ord_still 8 rfl (v := ?_) (by kernel_rfl) (fun _ _ _ h => h) rfl (fun W hW => ?_) hS ?_
        rotate_left
        · try dsimp only at hW
          go_simp
          try with_reducible rfl
        simp only [Act.put, List.setIfInBounds_toArray, List.set_cons_zero, List.set_cons_succ]
        refine ord_still 9 rfl (v := ?_) (by kernel_rfl) (fun _ _ _ h => h) rfl (fun W hW => ?_) hS ?_
        rotate_left
        · try dsimp only at hW
          go_simp
          try with_reducible rfl
        simp only [Act.put, List.setIfInBounds_toArray, List.set_cons_zero, List.set_cons_succ]
        refine ord_still 10 rfl (v := ?_) (by kernel_rfl) (fun _ _ _ h => h) rfl (fun W hW => ?_) hS ?_
        rotate_left
        · try dsimp only at hW
          go_simp
          try with_reducible rfl
        simp only [Act.put, List.setIfInBounds_toArray, List.set_cons_zero, List.set_cons_succ]
        refine ord_still 11 rfl (v := ?_) (by kernel_rfl) (fun _ _ _ h => h) rfl (fun W hW => ?_) hS ?_
        rotate_left
        · try dsimp only at hW
          go_simp
          try with_reducible rfl
        simp only [Act.put, List.setIfInBounds_toArray, List.set_cons_zero, List.set_cons_succ]
        refine ord_still 12 rfl (v := ?_) (by kernel_rfl) (fun _ _ _ h => h) rfl (fun W hW => ?_) hS ?_
        rotate_left
        · try dsimp only at hW
          go_simp
          try with_reducible rfl
        simp only [Act.put, List.setIfInBounds_toArray, List.set_cons_zero, List.set_cons_succ]
        refine ord_still 13 rfl (v := ?_) (by kernel_rfl) (fun _ _ _ h => h) rfl (fun W hW => ?_) hS ?_
        rotate_left
        · try dsimp only at hW
          go_simp
          try with_reducible rfl
        simp only [Act.put, List.setIfInBounds_toArray, List.set_cons_zero, List.set_cons_succ]
        refine ord_still 14 rfl (v := ?_) (by kernel_rfl) (fun _ _ _ h => h) rfl (fun W hW => ?_) hS ?_
        rotate_left
        · try dsimp only at hW
          go_simp
          try with_reducible rfl
        simp only [Act.put, List.setIfInBounds_toArray, List.set_cons_zero, List.set_cons_succ]
        refine ord_still 15 rfl (v := ?_) (by kernel_rfl) (fun _ _ _ h => h) rfl (fun W hW => ?_) hS ?_
        rotate_left
        · try dsimp only at hW
          go_simp
          try with_reducible rfl
        simp only [Act.put, List.setIfInBounds_toArray, List.set_cons_zero, List.set_cons_succ]
        refine ord_still 16 rfl (v := ?_) (by kernel_rfl) (fun _ _ _ h => h) rfl (fun W hW => ?_) hS ?_
        rotate_left
        · try dsimp only at hW
          go_simp
          try with_reducible rfl
        simp only [Act.put, List.setIfInBounds_toArray, List.set_cons_zero, List.set_cons_succ]
        refine ord_still 17 rfl (v := ?_) (by kernel_rfl) (fun _ _ _ h => h) rfl (fun W hW => ?_) hS ?_
        rotate_left
        · try dsimp only at hW
          go_simp
          try with_reducible rfl
        simp only [Act.put, List.setIfInBounds_toArray, List.set_cons_zero, List.set_cons_succ]
        refine ord_still 18 rfl (v := ?_) (by kernel_rfl) (fun _ _ _ h => h) rfl (fun W hW => ?_) hS ?_
        rotate_left
        · try dsimp only at hW
          go_simp
          try with_reducible rfl
        simp only [Act.put, List.setIfInBounds_toArray, List.set_cons_zero, List.set_cons_succ]
        refine ord_still 19 rfl (v := ?_) (by kernel_rfl) (fun _ _ _ h => h) rfl (fun W hW => ?_) hS ?_
        rotate_left
        · try dsimp only at hW
          go_simp
          try with_reducible rfl
        simp only [Act.put, List.setIfInBounds_toArray, List.set_cons_zero, List.set_cons_succ]
        refine ord_still 20 rfl (v := ?_) (by kernel_rfl) (fun _ _ _ h => h) rfl (fun W hW => ?_) hS ?_
        rotate_left
        · try dsimp only at hW
          go_simp
          try with_reducible rfl
        simp only [Act.put, List.setIfInBounds_toArray, List.set_cons_zero, List.set_cons_succ]
        refine ord_still 21 rfl (v := ?_) (by kernel_rfl) (fun _ _ _ h => h) rfl (fun W hW => ?_) hS ?_
        rotate_left
        · try dsimp only at hW
          go_simp
          try with_reducible rfl
        simp only [Act.put, List.setIfInBounds_toArray, List.set_cons_zero, List.set_cons_succ]
        refine ord_still 22 rfl (v := ?_) (by kernel_rfl) (fun _ _ _ h => h) rfl (fun W hW => ?_) hS ?_
        rotate_left
        · try dsimp only at hW
          go_simp
          try with_reducible rfl
        simp only [Act.put, List.setIfInBounds_toArray, List.set_cons_zero, List.set_cons_succ]
        refine ord_still 23 rfl (v := ?_) (by kernel_rfl) (fun _ _ _ h => h) rfl (fun W hW => ?_) hS ?_
        rotate_left
        · try dsimp only at hW
          go_simp
          try with_reducible rfl
        simp only [Act.put, List.setIfInBounds_toArray, List.set_cons_zero, List.set_cons_succ]
        refine ord_still 24 rfl (v := ?_) (by kernel_rfl) (fun _ _ _ h => h) rfl (fun W hW => ?_) hS ?_
        rotate_left
        · try dsimp only at hW
          go_simp
          try with_reducible rfl
        simp only [Act.put, List.setIfInBounds_toArray, List.set_cons_zero, List.set_cons_succ]
        refine ord_still 25 rfl (v := ?_) (by kernel_rfl) (fun _ _ _ h => h) rfl (fun W hW => ?_) hS ?_
        rotate_left
        · try dsimp only at hW
          go_simp
          try with_reducible rfl
        simp only [Act.put, List.setIfInBounds_toArray, List.set_cons_zero, List.set_cons_succ]
        refine ord_still 26 rfl (v := ?_) (by kernel_rfl) (fun _ _ _ h => h) rfl (fun W hW => ?_) hS ?_
        rotate_left
        · try dsimp only at hW
          go_simp
          try with_reducible rfl
        simp only [Act.put, List.setIfInBounds_toArray, List.set_cons_zero, List.set_cons_succ]
        refine ord_still 27 rfl (v := ?_) (by kernel_rfl) (fun _ _ _ h => h) rfl (fun W hW => ?_) hS ?_
        rotate_left
        · try dsimp only at hW
          go_simp
          try with_reducible rfl
        simp only [Act.put, List.setIfInBounds_toArray, List.set_cons_zero, List.set_cons_succ]
        refine ord_still 28 rfl (v := ?_) (by kernel_rfl) (fun _ _ _ h => h) rfl (fun W hW => ?_) hS ?_
        rotate_left
        · try dsimp only at hW
          go_simp
          try with_reducible rfl
        simp only [Act.put, List.setIfInBounds_toArray, List.set_cons_zero, List.set_cons_succ]
        refine ord_still 29 rfl (v := ?_) (by kernel_rfl) (fun _ _ _ h => h) rfl (fun W hW => ?_) hS ?_
        rotate_left
        · try dsimp only at hW
          go_simp
          try with_reducible rfl
        simp only [Act.put, List.setIfInBounds_toArray, List.set_cons_zero, List.set_cons_succ]
        refine ord_still 30 rfl (v := ?_) (by kernel_rfl) (fun _ _ _ h => h) rfl (fun W hW => ?_) hS ?_
        rotate_left
        · try dsimp only at hW
          go_simp
          try with_reducible rfl
        simp only [Act.put, List.setIfInBounds_toArray, List.set_cons_zero, List.set_cons_succ]
        refine ord_still 31 rfl (v := ?_) (by kernel_rfl) (fun _ _ _ h => h) rfl (fun W hW => ?_) hS ?_
        rotate_left
        · try dsimp only at hW
          go_simp
          try with_reducible rfl
        simp only [Act.put, List.setIfInBounds_toArray, List.set_cons_zero, List.set_cons_succ]
        refine ord_still 32 rfl (v := ?_) (by kernel_rfl) (fun _ _ _ h => h) rfl (fun W hW => ?_) hS ?_
        rotate_left
        · try dsimp only at hW
          go_simp
          try with_reducible rfl
        simp only [Act.put, List.setIfInBounds_toArray, List.set_cons_zero, List.set_cons_succ]
        refine ord_still 33 rfl (v := ?_) (by kernel_rfl) (fun _ _ _ h => h) rfl (fun W hW => ?_) hS ?_
        rotate_left
        · try dsimp only at hW
          go_simp
          try with_reducible rfl
        simp only [Act.put, List.setIfInBounds_toArray, List.set_cons_zero, List.set_cons_succ]
        refine ord_still 34 rfl (v := ?_) (by kernel_rfl) (fun _ _ _ h => h) rfl (fun W hW => ?_) hS ?_
        rotate_left
        · try dsimp only at hW
          go_simp
          try with_reducible rfl
        simp only [Act.put, List.setIfInBounds_toArray, List.set_cons_zero, List.set_cons_succ]
        refine ord_still 35 rfl (v := ?_) (by kernel_rfl) (fun _ _ _ h => h) rfl (fun W hW => ?_) hS ?_
        rotate_left
        · try dsimp only at hW
          go_simp
          try with_reducible rfl
        simp only [Act.put, List.setIfInBounds_toArray, List.set_cons_zero, List.set_cons_succ]
        refine ord_still 36 rfl (v := ?_) (by kernel_rfl) (fun _ _ _ h => h) rfl (fun W hW => ?_) hS ?_
        rotate_left
        · try dsimp only at hW
          go_simp
          try with_reducible rfl
        simp only [Act.put, List.setIfInBounds_toArray, List.set_cons_zero, List.set_cons_succ]
        refine ord_still 37 rfl (v := ?_) (by kernel_rfl) (fun _ _ _ h => h) rfl (fun W hW => ?_) hS ?_
        rotate_left
        · try dsimp only at hW
          go_simp
          try with_reducible rfl
        simp only [Act.put, List.setIfInBounds_toArray, List.set_cons_zero, List.set_cons_succ]
        refine ord_still 38 rfl (v := ?_) (by kernel_rfl) (fun _ _ _ h => h) rfl (fun W hW => ?_) hS ?_
        rotate_left
        · try dsimp only at hW
          go_simp
          try with_reducible rfl
        simp only [Act.put, List.setIfInBounds_toArray, List.set_cons_zero, List.set_cons_succ]
        refine ord_still 39 rfl (v := ?_) (by kernel_rfl) (fun _ _ _ h => h) rfl (fun W hW => ?_) hS ?_
        rotate_left
        · try dsimp only at hW
          go_simp
          try with_reducible rfl
        simp only [Act.put, List.setIfInBounds_toArray, List.set_cons_zero, List.set_cons_succ]
        refine ord_still 40 rfl (v := ?_) (by kernel_rfl) (fun _ _ _ h => h) rfl (fun W hW => ?_) hS ?_
        rotate_left
        · try dsimp only at hW
          go_simp
          try with_reducible rfl
        simp only [Act.put, List.setIfInBounds_toArray, List.set_cons_zero, List.set_cons_succ]
        refine ord_skip 41 rfl (by kernel_rfl) (fun _ _ _ h => h) rfl hS ?_
        simp only [Act.put, List.setIfInBounds_toArray, List.set_cons_zero, List.set_cons_succ]
        refine ord_skip 42 rfl (by kernel_rfl) (fun _ _ _ h => h) rfl hS ?_
        simp only [Act.put, List.setIfInBounds_toArray, List.set_cons_zero, List.set_cons_succ]
        refine ord_skip 43 rfl (by kernel_rfl) (fun _ _ _ h => h) rfl hS ?_
        simp only [Act.put, List.setIfInBounds_toArray, List.set_cons_zero, List.set_cons_succ]
        refine ord_skip 44 rfl (by kernel_rfl) (fun _ _ _ h => h) rfl hS ?_
        simp only [Act.put, List.setIfInBounds_toArray, List.set_cons_zero, List.set_cons_succ]
        refine ord_skip 45 rfl (by kernel_rfl) (fun _ _ _ h => h) rfl hS ?_
        simp only [Act.put, List.setIfInBounds_toArray, List.set_cons_zero, List.set_cons_succ]
        refine ord_skip 46 rfl (by kernel_rfl) (fun _ _ _ h => h) rfl hS ?_
        simp only [Act.put, List.setIfInBounds_toArray, List.set_cons_zero, List.set_cons_succ]
        refine ord_skip 47 rfl (by kernel_rfl) (fun _ _ _ h => h) rfl hS ?_
        simp only [Act.put, List.setIfInBounds_toArray, List.set_cons_zero, List.set_cons_succ]
        refine ord_skip 48 rfl (by kernel_rfl) (fun _ _ _ h => h) rfl hS ?_
        simp only [Act.put, List.setIfInBounds_toArray, List.set_cons_zero, List.set_cons_succ]
        refine ord_skip 49 rfl (by kernel_rfl) (fun _ _ _ h => h) rfl hS ?_
        simp only [Act.put, List.setIfInBounds_toArray, List.set_cons_zero, List.set_cons_succ]
        refine ord_skip 50 rfl (by kernel_rfl) (fun _ _ _ h => h) rfl hS ?_
        simp only [Act.put, List.setIfInBounds_toArray, List.set_cons_zero, List.set_cons_succ]
        refine ord_skip 51 rfl (by kernel_rfl) (fun _ _ _ h => h) rfl hS ?_
        simp only [Act.put, List.setIfInBounds_toArray, List.set_cons_zero, List.set_cons_succ]
        refine ord_skip 52 rfl (by kernel_rfl) (fun _ _ _ h => h) rfl hS ?_
        simp only [Act.put, List.setIfInBounds_toArray, List.set_cons_zero, List.set_cons_succ]
        refine ord_skip 53 rfl (by kernel_rfl) (fun _ _ _ h => h) rfl hS ?_
        simp only [Act.put, List.setIfInBounds_toArray, List.set_cons_zero, List.set_cons_succ]
        refine ord_still 54 rfl (v := ?_) (by kernel_rfl) (fun _ _ _ h => h) rfl (fun W hW => ?_) hS ?_
        rotate_left
        · try dsimp only at hW
          go_simp
          try with_reducible rfl
        simp only [Act.put, List.setIfInBounds_toArray, List.set_cons_zero, List.set_cons_succ]
        refine ord_still 55 rfl (v := ?_) (by kernel_rfl) (fun _ _ _ h => h) rfl (fun W hW => ?_) hS ?_
        rotate_left
        · try dsimp only at hW
          go_simp
          try with_reducible rfl
        simp only [Act.put, List.setIfInBounds_toArray, List.set_cons_zero, List.set_cons_succ]
        refine ord_done (by kernel_rfl) ?_
        clear hS
        go_wp2_with fail
        go_roundw
        case rel => exact ⟨j + 1, by omega, by go_num, HB.out.drew⟩
        case measure => simp [intOf]; omega
      · obtain ⟨p, hp⟩ : ∃ p, j = p + 1 := ⟨j - 1, by omega⟩
        obtain ⟨d, hd⟩ : ∃ d, D[p]? = some d := ⟨_, List.getElem?_eq_getElem (by rw [HN.out]; omega)⟩
        obtain ⟨bp, op, qp, hvp, _, _, lp, sp⟩ := HX.out.get chgEn_len (by decide) hd
        injection hvp with d1 d2 d3
        injection d1 with d1
        injection d1 with d1 d4
        subst d1 d4 d3
        have HCP := hid (fun (w' : World) (h : Below w4.heap.size w4 w') => cell5 lp sp h)
        have hlt : d.1.lt (((k1, k2), k3) : Pf) := by
          have h1 := (List.getElem?_eq_some_iff.1 hd)
          have h2 := (List.getElem?_eq_some_iff.1 hc)
          have := (List.pairwise_iff_getElem.1 HO.out) p j h1.1 h2.1 (by omega)
          rw [h1.2, h2.2] at this
          exact this
        have z1 : (0 : Int) < (j : Int) := by omega
        have z2 : decide ((0 : Int) < (j : Int)) = true := decide_eq_true z1
        have z3 : 0 < j := by omega
        have z4 : decide (0 < j) = true := decide_eq_true z3
        have e1 : (j : Int) - 1 = (p : Int) := by omega
        have e2 : IntKind.i64.wrap ((j : Int) - 1) = (p : Int) := by rw [IntKind.wrap_i64]; omega
        have e4 : IntKind.i64.wrap (p : Int) = (p : Int) := by rw [IntKind.wrap_i64]; omega
        have p0 : (0 : Int) ≤ (p : Int) := by omega
        have p1 : (p : Int) < (N : Int) := by omega
        have CL := hid (fun w => ref_less d.1 ((k1, k2), k3) true (by rw [decide_eq_true hlt]) w)
        have HJN := hid hjn
        have e3 : IntKind.i64.wrap ((j : Int) + 1) = (j : Int) + 1 := by rw [IntKind.wrap_i64]; omega
        clear sx lx sp lp hc hcy hd hlt hp hj0 d2
        obtain ⟨⟨⟨q1, q2⟩, q3⟩, q4, q5⟩ := d
        simp only at CL
        go_wp2_with fail
        have hS : (wr.drew.cell? ⟨bx, ox + j * 5, none⟩ = some (.int .u64 (k1 : Int)) ∧ wr.drew.cell? ⟨bx, ox + j * 5 + 1, none⟩ = some (.int .u64 (k2 : Int)) ∧ wr.drew.cell? ⟨bx, ox + j * 5 + 2, none⟩ = some (.int .i64 k3) ∧ wr.drew.cell? ⟨bx, ox + j * 5 + 3, none⟩ = some (.int .i64 o) ∧ wr.drew.cell? ⟨bx, ox + j * 5 + 4, none⟩ = some (.int .i64 m')) ∧ (wr.drew.cell? ⟨by', oy + j * 5, none⟩ = some (.int .u64 (k1 : Int)) ∧ wr.drew.cell? ⟨by', oy + j * 5 + 1, none⟩ = some (.int .u64 (k2 : Int)) ∧ wr.drew.cell? ⟨by', oy + j * 5 + 2, none⟩ = some (.int .i64 k3) ∧ wr.drew.cell? ⟨by', oy + j * 5 + 3, none⟩ = some (.int .i64 m') ∧ wr.drew.cell? ⟨by', oy + j * 5 + 4, none⟩ = some (.int .i64 o)) ∧ (wr.drew.cell? ⟨bx, ox + p * 5, none⟩ = some (.int .u64 (q1 : Int)) ∧ wr.drew.cell? ⟨bx, ox + p * 5 + 1, none⟩ = some (.int .u64 (q2 : Int)) ∧ wr.drew.cell? ⟨bx, ox + p * 5 + 2, none⟩ = some (.int .i64 q3)) := ⟨HCX.out _ (HB.out.drew), HCY.out _ (HB.out.drew), (HCP.out _ (HB.out.drew)).1, (HCP.out _ (HB.out.drew)).2.1, (HCP.out _ (HB.out.drew)).2.2.1⟩
        refine wp_region_ord (fun w' => (w'.cell? ⟨bx, ox + j * 5, none⟩ = some (.int .u64 (k1 : Int)) ∧ w'.cell? ⟨bx, ox + j * 5 + 1, none⟩ = some (.int .u64 (k2 : Int)) ∧ w'.cell? ⟨bx, ox + j * 5 + 2, none⟩ = some (.int .i64 k3) ∧ w'.cell? ⟨bx, ox + j * 5 + 3, none⟩ = some (.int .i64 o) ∧ w'.cell? ⟨bx, ox + j * 5 + 4, none⟩ = some (.int .i64 m')) ∧ (w'.cell? ⟨by', oy + j * 5, none⟩ = some (.int .u64 (k1 : Int)) ∧ w'.cell? ⟨by', oy + j * 5 + 1, none⟩ = some (.int .u64 (k2 : Int)) ∧ w'.cell? ⟨by', oy + j * 5 + 2, none⟩ = some (.int .i64 k3) ∧ w'.cell? ⟨by', oy + j * 5 + 3, none⟩ = some (.int .i64 m') ∧ w'.cell? ⟨by', oy + j * 5 + 4, none⟩ = some (.int .i64 o)) ∧ (w'.cell? ⟨bx, ox + p * 5, none⟩ = some (.int .u64 (q1 : Int)) ∧ w'.cell? ⟨bx, ox + p * 5 + 1, none⟩ = some (.int .u64 (q2 : Int)) ∧ w'.cell? ⟨bx, ox + p * 5 + 2, none⟩ = some (.int .i64 q3))) (by kernel_rfl) hS ?_
        refine ord_still 0 rfl (v := ?_) (by kernel_rfl) (fun _ _ _ h => h) rfl (fun W hW => ?_) hS ?_
        rotate_left
        · try dsimp only at hW
          go_simp
          try with_reducible rfl
        simp only [Act.put, List.setIfInBounds_toArray, List.set_cons_zero, List.set_cons_succ]
        refine ord_still 1 rfl (v := ?_) (by kernel_rfl) (fun _ _ _ h => h) rfl (fun W hW => ?_) hS ?_
        rotate_left
        · try dsimp only at hW
          go_simp
          try with_reducible rfl
        simp only [Act.put, List.setIfInBounds_toArray, List.set_cons_zero, List.set_cons_succ]
        refine ord_still 2 rfl (v := ?_) (by kernel_rfl) (fun _ _ _ h => h) rfl (fun W hW => ?_) hS ?_
        rotate_left
        · try dsimp only at hW
          go_simp
          try with_reducible rfl
        simp only [Act.put, List.setIfInBounds_toArray, List.set_cons_zero, List.set_cons_succ]
        refine ord_still 3 rfl (v := ?_) (by kernel_rfl) (fun _ _ _ h => h) rfl (fun W hW => ?_) hS ?_
        rotate_left
        · try dsimp only at hW
          go_simp
          try with_reducible rfl
        simp only [Act.put, List.setIfInBounds_toArray, List.set_cons_zero, List.set_cons_succ]
        refine ord_still 4 rfl (v := ?_) (by kernel_rfl) (fun _ _ _ h => h) rfl (fun W hW => ?_) hS ?_
        rotate_left
        · try dsimp only at hW
          go_simp
          try with_reducible rfl
        simp only [Act.put, List.setIfInBounds_toArray, List.set_cons_zero, List.set_cons_succ]
        refine ord_still 5 rfl (v := ?_) (by kernel_rfl) (fun _ _ _ h => h) rfl (fun W hW => ?_) hS ?_
        rotate_left
        · try dsimp only at hW
          go_simp
          try with_reducible rfl
        simp only [Act.put, List.setIfInBounds_toArray, List.set_cons_zero, List.set_cons_succ]
        refine ord_still 6 rfl (v := ?_) (by kernel_rfl) (fun _ _ _ h => h) rfl (fun W hW => ?_) hS ?_
        rotate_left
        · try dsimp only at hW
          go_simp
          try with_reducible rfl
        simp only [Act.put, List.setIfInBounds_toArray, List.set_cons_zero, List.set_cons_succ]
        refine ord_still 7 rfl (v := ?_) (by kernel_rfl) (fun _ _ _ h => h) rfl (fun W hW => ?_) hS ?_
        rotate_left
        · try dsimp only at hW
          go_simp
          try with_reducible rfl
        simp only [Act.put, List.setIfInBounds_toArray, List.set_cons_zero, List.set_cons_succ]
        refine ord_still 8 rfl (v := ?_) (by kernel_rfl) (fun _ _ _ h => h) rfl (fun W hW => ?_) hS ?_
        rotate_left
        · try dsimp only at hW
          go_simp
          try with_reducible rfl
        simp only [Act.put, List.setIfInBounds_toArray, List.set_cons_zero, List.set_cons_succ]
        refine ord_still 9 rfl (v := ?_) (by kernel_rfl) (fun _ _ _ h => h) rfl (fun W hW => ?_) hS ?_
        rotate_left
        · try dsimp only at hW
          go_simp
          try with_reducible rfl
        simp only [Act.put, List.setIfInBounds_toArray, List.set_cons_zero, List.set_cons_succ]
        refine ord_still 10 rfl (v := ?_) (by kernel_rfl) (fun _ _ _ h => h) rfl (fun W hW => ?_) hS ?_
        rotate_left
        · try dsimp only at hW
          go_simp
          try with_reducible rfl
        simp only [Act.put, List.setIfInBounds_toArray, List.set_cons_zero, List.set_cons_succ]
        refine ord_still 11 rfl (v := ?_) (by kernel_rfl) (fun _ _ _ h => h) rfl (fun W hW => ?_) hS ?_
        rotate_left
        · try dsimp only at hW
          go_simp
          try with_reducible rfl
        simp only [Act.put, List.setIfInBounds_toArray, List.set_cons_zero, List.set_cons_succ]
        refine ord_still 12 rfl (v := ?_) (by kernel_rfl) (fun _ _ _ h => h) rfl (fun W hW => ?_) hS ?_
        rotate_left
        · try dsimp only at hW
          go_simp
          try with_reducible rfl
        simp only [Act.put, List.setIfInBounds_toArray, List.set_cons_zero, List.set_cons_succ]
        refine ord_still 13 rfl (v := ?_) (by kernel_rfl) (fun _ _ _ h => h) rfl (fun W hW => ?_) hS ?_
        rotate_left
        · try dsimp only at hW
          go_simp
          try with_reducible rfl
        simp only [Act.put, List.setIfInBounds_toArray, List.set_cons_zero, List.set_cons_succ]
        refine ord_still 14 rfl (v := ?_) (by kernel_rfl) (fun _ _ _ h => h) rfl (fun W hW => ?_) hS ?_
        rotate_left
        · try dsimp only at hW
          go_simp
          try with_reducible rfl
        simp only [Act.put, List.setIfInBounds_toArray, List.set_cons_zero, List.set_cons_succ]
        refine ord_still 15 rfl (v := ?_) (by kernel_rfl) (fun _ _ _ h => h) rfl (fun W hW => ?_) hS ?_
        rotate_left
        · try dsimp only at hW
          go_simp
          try with_reducible rfl
        simp only [Act.put, List.setIfInBounds_toArray, List.set_cons_zero, List.set_cons_succ]
        refine ord_still 16 rfl (v := ?_) (by kernel_rfl) (fun _ _ _ h => h) rfl (fun W hW => ?_) hS ?_
        rotate_left
        · try dsimp only at hW
          go_simp
          try with_reducible rfl
        simp only [Act.put, List.setIfInBounds_toArray, List.set_cons_zero, List.set_cons_succ]
        refine ord_still 17 rfl (v := ?_) (by kernel_rfl) (fun _ _ _ h => h) rfl (fun W hW => ?_) hS ?_
        rotate_left
        · try dsimp only at hW
          go_simp
          try with_reducible rfl
        simp only [Act.put, List.setIfInBounds_toArray, List.set_cons_zero, List.set_cons_succ]
        refine ord_still 18 rfl (v := ?_) (by kernel_rfl) (fun _ _ _ h => h) rfl (fun W hW => ?_) hS ?_
        rotate_left
        · try dsimp only at hW
          go_simp
          try with_reducible rfl
        simp only [Act.put, List.setIfInBounds_toArray, List.set_cons_zero, List.set_cons_succ]
        refine ord_still 19 rfl (v := ?_) (by kernel_rfl) (fun _ _ _ h => h) rfl (fun W hW => ?_) hS ?_
        rotate_left
        · try dsimp only at hW
          go_simp
          try with_reducible rfl
        simp only [Act.put, List.setIfInBounds_toArray, List.set_cons_zero, List.set_cons_succ]
        refine ord_still 20 rfl (v := ?_) (by kernel_rfl) (fun _ _ _ h => h) rfl (fun W hW => ?_) hS ?_
        rotate_left
        · try dsimp only at hW
          go_simp
          try with_reducible rfl
        simp only [Act.put, List.setIfInBounds_toArray, List.set_cons_zero, List.set_cons_succ]
        refine ord_still 21 rfl (v := ?_) (by kernel_rfl) (fun _ _ _ h => h) rfl (fun W hW => ?_) hS ?_
        rotate_left
        · try dsimp only at hW
          go_simp
          try with_reducible rfl
        simp only [Act.put, List.setIfInBounds_toArray, List.set_cons_zero, List.set_cons_succ]
        refine ord_still 22 rfl (v := ?_) (by kernel_rfl) (fun _ _ _ h => h) rfl (fun W hW => ?_) hS ?_
        rotate_left
        · try dsimp only at hW
          go_simp
          try with_reducible rfl
        simp only [Act.put, List.setIfInBounds_toArray, List.set_cons_zero, List.set_cons_succ]
        refine ord_still 23 rfl (v := ?_) (by kernel_rfl) (fun _ _ _ h => h) rfl (fun W hW => ?_) hS ?_
        rotate_left
        · try dsimp only at hW
          go_simp
          try with_reducible rfl
        simp only [Act.put, List.setIfInBounds_toArray, List.set_cons_zero, List.set_cons_succ]
        refine ord_still 24 rfl (v := ?_) (by kernel_rfl) (fun _ _ _ h => h) rfl (fun W hW => ?_) hS ?_
        rotate_left
        · try dsimp only at hW
          go_simp
          try with_reducible rfl
        simp only [Act.put, List.setIfInBounds_toArray, List.set_cons_zero, List.set_cons_succ]
        refine ord_still 25 rfl (v := ?_) (by kernel_rfl) (fun _ _ _ h => h) rfl (fun W hW => ?_) hS ?_
        rotate_left
        · try dsimp only at hW
          go_simp
          try with_reducible rfl
        simp only [Act.put, List.setIfInBounds_toArray, List.set_cons_zero, List.set_cons_succ]
        refine ord_still 26 rfl (v := ?_) (by kernel_rfl) (fun _ _ _ h => h) rfl (fun W hW => ?_) hS ?_
        rotate_left
        · try dsimp only at hW
          go_simp
          try with_reducible rfl
        simp only [Act.put, List.setIfInBounds_toArray, List.set_cons_zero, List.set_cons_succ]
        refine ord_still 27 rfl (v := ?_) (by kernel_rfl) (fun _ _ _ h => h) rfl (fun W hW => ?_) hS ?_
        rotate_left
        · try dsimp only at hW
          go_simp
          try with_reducible rfl
        simp only [Act.put, List.setIfInBounds_toArray, List.set_cons_zero, List.set_cons_succ]
        refine ord_still 28 rfl (v := ?_) (by kernel_rfl) (fun _ _ _ h => h) rfl (fun W hW => ?_) hS ?_
        rotate_left
        · try dsimp only at hW
          go_simp
          try with_reducible rfl
        simp only [Act.put, List.setIfInBounds_toArray, List.set_cons_zero, List.set_cons_succ]
        refine ord_still 29 rfl (v := ?_) (by kernel_rfl) (fun _ _ _ h => h) rfl (fun W hW => ?_) hS ?_
        rotate_left
        · try dsimp only at hW
          go_simp
          try with_reducible rfl
        simp only [Act.put, List.setIfInBounds_toArray, List.set_cons_zero, List.set_cons_succ]
        refine ord_still 30 rfl (v := ?_) (by kernel_rfl) (fun _ _ _ h => h) rfl (fun W hW => ?_) hS ?_
        rotate_left
        · try dsimp only at hW
          go_simp
          try with_reducible rfl
        simp only [Act.put, List.setIfInBounds_toArray, List.set_cons_zero, List.set_cons_succ]
        refine ord_still 31 rfl (v := ?_) (by kernel_rfl) (fun _ _ _ h => h) rfl (fun W hW => ?_) hS ?_
        rotate_left
        · try dsimp only at hW
          go_simp
          try with_reducible rfl
        simp only [Act.put, List.setIfInBounds_toArray, List.set_cons_zero, List.set_cons_succ]
        refine ord_still 32 rfl (v := ?_) (by kernel_rfl) (fun _ _ _ h => h) rfl (fun W hW => ?_) hS ?_
        rotate_left
        · try dsimp only at hW
          go_simp
          try with_reducible rfl
        simp only [Act.put, List.setIfInBounds_toArray, List.set_cons_zero, List.set_cons_succ]
        refine ord_still 33 rfl (v := ?_) (by kernel_rfl) (fun _ _ _ h => h) rfl (fun W hW => ?_) hS ?_
        rotate_left
        · try dsimp only at hW
          go_simp
          try with_reducible rfl
        simp only [Act.put, List.setIfInBounds_toArray, List.set_cons_zero, List.set_cons_succ]
        refine ord_still 34 rfl (v := ?_) (by kernel_rfl) (fun _ _ _ h => h) rfl (fun W hW => ?_) hS ?_
        rotate_left
        · try dsimp only at hW
          go_simp
          try with_reducible rfl
        simp only [Act.put, List.setIfInBounds_toArray, List.set_cons_zero, List.set_cons_succ]
        refine ord_still 35 rfl (v := ?_) (by kernel_rfl) (fun _ _ _ h => h) rfl (fun W hW => ?_) hS ?_
        rotate_left
        · try dsimp only at hW
          go_simp
          try with_reducible rfl
        simp only [Act.put, List.setIfInBounds_toArray, List.set_cons_zero, List.set_cons_succ]
        refine ord_still 36 rfl (v := ?_) (by kernel_rfl) (fun _ _ _ h => h) rfl (fun W hW => ?_) hS ?_
        rotate_left
        · try dsimp only at hW
          go_simp
          try with_reducible rfl
        simp only [Act.put, List.setIfInBounds_toArray, List.set_cons_zero, List.set_cons_succ]
        refine ord_still 37 rfl (v := ?_) (by kernel_rfl) (fun _ _ _ h => h) rfl (fun W hW => ?_) hS ?_
        rotate_left
        · try dsimp only at hW
          go_simp
          try with_reducible rfl
        simp only [Act.put, List.setIfInBounds_toArray, List.set_cons_zero, List.set_cons_succ]
        refine ord_still 38 rfl (v := ?_) (by kernel_rfl) (fun _ _ _ h => h) rfl (fun W hW => ?_) hS ?_
        rotate_left
        · try dsimp only at hW
          go_simp
          try with_reducible rfl
        simp only [Act.put, List.setIfInBounds_toArray, List.set_cons_zero, List.set_cons_succ]
        refine ord_still 39 rfl (v := ?_) (by kernel_rfl) (fun _ _ _ h => h) rfl (fun W hW => ?_) hS ?_
        rotate_left
        · try dsimp only at hW
          go_simp
          try with_reducible rfl
        simp only [Act.put, List.setIfInBounds_toArray, List.set_cons_zero, List.set_cons_succ]
        refine ord_still 40 rfl (v := ?_) (by kernel_rfl) (fun _ _ _ h => h) rfl (fun W hW => ?_) hS ?_
        rotate_left
        · try dsimp only at hW
          go_simp
          try with_reducible rfl
        simp only [Act.put, List.setIfInBounds_toArray, List.set_cons_zero, List.set_cons_succ]
        refine ord_still 41 rfl (v := ?_) (by kernel_rfl) (fun _ _ _ h => h) rfl (fun W hW => ?_) hS ?_
        rotate_left
        · try dsimp only at hW
          go_simp
          try with_reducible rfl
        simp only [Act.put, List.setIfInBounds_toArray, List.set_cons_zero, List.set_cons_succ]
        refine ord_still 42 rfl (v := ?_) (by kernel_rfl) (fun _ _ _ h => h) rfl (fun W hW => ?_) hS ?_
        rotate_left
        · try dsimp only at hW
          go_simp
          try with_reducible rfl
        simp only [Act.put, List.setIfInBounds_toArray, List.set_cons_zero, List.set_cons_succ]
        refine ord_still 43 rfl (v := ?_) (by kernel_rfl) (fun _ _ _ h => h) rfl (fun W hW => ?_) hS ?_
        rotate_left
        · try dsimp only at hW
          go_simp
          try with_reducible rfl
        simp only [Act.put, List.setIfInBounds_toArray, List.set_cons_zero, List.set_cons_succ]
        refine ord_still 44 rfl (v := ?_) (by kernel_rfl) (fun _ _ _ h => h) rfl (fun W hW => ?_) hS ?_
        rotate_left
        · try dsimp only at hW
          go_simp
          try with_reducible rfl
        simp only [Act.put, List.setIfInBounds_toArray, List.set_cons_zero, List.set_cons_succ]
        refine ord_still 45 rfl (v := ?_) (by kernel_rfl) (fun _ _ _ h => h) rfl (fun W hW => ?_) hS ?_
        rotate_left
        · try dsimp only at hW
          go_simp
          try with_reducible rfl
        simp only [Act.put, List.setIfInBounds_toArray, List.set_cons_zero, List.set_cons_succ]
        refine ord_still 46 rfl (v := ?_) (by kernel_rfl) (fun _ _ _ h => h) rfl (fun W hW => ?_) hS ?_
        rotate_left
        · try dsimp only at hW
          go_simp
          try with_reducible rfl
        simp only [Act.put, List.setIfInBounds_toArray, List.set_cons_zero, List.set_cons_succ]
        refine ord_still 47 rfl (v := ?_) (by kernel_rfl) (fun _ _ _ h => h) rfl (fun W hW => ?_) hS ?_
        rotate_left
        · try dsimp only at hW
          go_simp
          try with_reducible rfl
        simp only [Act.put, List.setIfInBounds_toArray, List.set_cons_zero, List.set_cons_succ]
        refine ord_still 48 rfl (v := ?_) (by kernel_rfl) (fun _ _ _ h => h) rfl (fun W hW => ?_) hS ?_
        rotate_left
        · try dsimp only at hW
          go_simp
          try with_reducible rfl
        simp only [Act.put, List.setIfInBounds_toArray, List.set_cons_zero, List.set_cons_succ]
        refine ord_still 49 rfl (v := ?_) (by kernel_rfl) (fun _ _ _ h => h) rfl (fun W hW => ?_) hS ?_
        rotate_left
        · try dsimp only at hW
          go_simp
          try with_reducible rfl
        simp only [Act.put, List.setIfInBounds_toArray, List.set_cons_zero, List.set_cons_succ]
        refine ord_still 50 rfl (v := ?_) (by kernel_rfl) (fun _ _ _ h => h) rfl (fun W hW => ?_) hS ?_
        rotate_left
        · try dsimp only at hW
          go_simp
          try with_reducible rfl
        simp only [Act.put, List.setIfInBounds_toArray, List.set_cons_zero, List.set_cons_succ]
        refine ord_still 51 rfl (v := ?_) (by kernel_rfl) (fun _ _ _ h => h) rfl (fun W hW => ?_) hS ?_
        rotate_left
        · try dsimp only at hW
          go_simp
          try with_reducible rfl
        simp only [Act.put, List.setIfInBounds_toArray, List.set_cons_zero, List.set_cons_succ]
        refine ord_alone 52 rfl (by kernel_rfl) rfl (fun K hK => ?_)
        go_simp
        refine (CL.out _).mono ?_
        rintro _ w6 ⟨rfl, hb⟩
        have HB6 := hid (held_next HB.out.drew hb)
        clear hb
        clear hS
        have hS : (w6.cell? ⟨bx, ox + j * 5, none⟩ = some (.int .u64 (k1 : Int)) ∧ w6.cell? ⟨bx, ox + j * 5 + 1, none⟩ = some (.int .u64 (k2 : Int)) ∧ w6.cell? ⟨bx, ox + j * 5 + 2, none⟩ = some (.int .i64 k3) ∧ w6.cell? ⟨bx, ox + j * 5 + 3, none⟩ = some (.int .i64 o) ∧ w6.cell? ⟨bx, ox + j * 5 + 4, none⟩ = some (.int .i64 m')) ∧ (w6.cell? ⟨by', oy + j * 5, none⟩ = some (.int .u64 (k1 : Int)) ∧ w6.cell? ⟨by', oy + j * 5 + 1, none⟩ = some (.int .u64 (k2 : Int)) ∧ w6.cell? ⟨by', oy + j * 5 + 2, none⟩ = some (.int .i64 k3) ∧ w6.cell? ⟨by', oy + j * 5 + 3, none⟩ = some (.int .i64 m') ∧ w6.cell? ⟨by', oy + j * 5 + 4, none⟩ = some (.int .i64 o)) ∧ (w6.cell? ⟨bx, ox + p * 5, none⟩ = some (.int .u64 (q1 : Int)) ∧ w6.cell? ⟨bx, ox + p * 5 + 1, none⟩ = some (.int .u64 (q2 : Int)) ∧ w6.cell? ⟨bx, ox + p * 5 + 2, none⟩ = some (.int .i64 q3)) := ⟨HCX.out _ (HB6.out), HCY.out _ (HB6.out), (HCP.out _ (HB6.out)).1, (HCP.out _ (HB6.out)).2.1, (HCP.out _ (HB6.out)).2.2.1⟩
        refine hK.out _ _ hS ?_
        clear hK
        refine ord_still 53 rfl (v := ?_) (by kernel_rfl) (fun _ _ _ h => h) rfl (fun W hW => ?_) hS ?_
        rotate_left
        · try dsimp only at hW
          go_simp
          try with_reducible rfl
        simp only [Act.put, List.setIfInBounds_toArray, List.set_cons_zero, List.set_cons_succ]
        refine ord_still 54 rfl (v := ?_) (by kernel_rfl) (fun _ _ _ h => h) rfl (fun W hW => ?_) hS ?_
        rotate_left
        · try dsimp only at hW
          go_simp
          try with_reducible rfl
        simp only [Act.put, List.setIfInBounds_toArray, List.set_cons_zero, List.set_cons_succ]
        refine ord_still 55 rfl (v := ?_) (by kernel_rfl) (fun _ _ _ h => h) rfl (fun W hW => ?_) hS ?_
        rotate_left
        · try dsimp only at hW
          go_simp
          try with_reducible rfl
        simp only [Act.put, List.setIfInBounds_toArray, List.set_cons_zero, List.set_cons_succ]
        refine ord_done (by kernel_rfl) ?_
        clear hS
        go_wp2_with fail
        go_roundw
        case rel => exact ⟨j + 1, by have := HJN.out; omega, by go_num, HB6.out⟩
        case measure => have := HJN.out; simp [intOf]; omega
    · have c3 : ¬ (j : Int) < (N : Int) := by omega
      clear hB
      go_wp2_with fail
      go_ret
      exact ⟨rfl, HB4.out.trans (HB.out.mono HB4.out.size)⟩

theorem deltaBack_walk (W : World) (v1 : Value) (l1 : List Rt) (R1 : Rd rtEn 4 W v1 l1) (ok1 : ∀ x ∈ l1, Rt.fit x) (v2 : Value) (l2 : List Rt) (R2 : Rd rtEn 4 W v2 l2) (ok2 : ∀ x ∈ l2, Rt.fit x) :
    Calls Try.prog 5 #[v1, v2] W fun e W' => e = .returned (.bool true) ∧ Below W.heap.size W W' := by
  by_cases h : l1.length ≤ 40 ∧ l2.length ≤ 40
  · exact deltaBack_in W v1 l1 R1 v2 l2 R2 h.1 h.2
  · obtain ⟨A, cap, rfl, n1, m1⟩ := R1.form
    obtain ⟨B, cap2, rfl, n2, m2⟩ := R2.form
    exact deltaBack_out W A _ cap n1 m1 B _ cap2 n2 m2 h

end Go.Proofs.Ytcchjljdhjkmeaa
