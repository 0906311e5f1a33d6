/-
  The walk of the law WeighAll: for all inputs it returns true and leaves memory alone. No condition.
-/
import Derived.Test.YtcnecjjgnnkjkaaShareLaw
import Derived.Test.YtcnecjjgnnkjkaaOrd
namespace Go.Proofs.Ytcnecjjgnnkjkaa
open Go.RowKit
set_option linter.unusedVariables false
set_option linter.unusedSimpArgs false
set_option maxRecDepth 100000

set_option maxHeartbeats 4000000 in
theorem weighAll_out (W : World) (A : Option Addr) (n cap : Nat) (total least N : Int) (hN : (n : Int) = N) (h : N < 1 ∨ 100 < N ∨ least < 1 ∨ 1000 < least ∨ total < least * N ∨ 1073741824 < total) :
    Calls Try.prog 5 #[.int .i64 total, .int .i64 least, .slice A n cap] W fun e W' => e = .returned (.bool true) ∧ Below W.heap.size W W' := by
  have cA := hid (law10_alive W)
  by_cases h1 : N < 1
  · clear h
    rw [← hN] at *
    clear hN
    go_enter Try.func5, Try.ntmps5
    go_wp2_with fail
    refine cA.out.mono ?_
    rintro _ w1 ⟨rfl, hb⟩
    have HB1 := hid hb
    clear hb
    go_wp2_with fail
    go_ret
    exact ⟨rfl, HB1.out⟩
  by_cases h2 : 100 < N
  · clear h
    rw [← hN] at *
    clear hN
    go_enter Try.func5, Try.ntmps5
    go_wp2_with fail
    refine cA.out.mono ?_
    rintro _ w1 ⟨rfl, hb⟩
    have HB1 := hid hb
    clear hb
    go_wp2_with fail
    go_ret
    exact ⟨rfl, HB1.out⟩
  by_cases h3 : least < 1
  · clear h
    rw [← hN] at *
    clear hN
    go_enter Try.func5, Try.ntmps5
    go_wp2_with fail
    refine cA.out.mono ?_
    rintro _ w1 ⟨rfl, hb⟩
    have HB1 := hid hb
    clear hb
    go_wp2_with fail
    go_ret
    exact ⟨rfl, HB1.out⟩
  by_cases h4 : 1000 < least
  · clear h
    rw [← hN] at *
    clear hN
    go_enter Try.func5, Try.ntmps5
    go_wp2_with fail
    refine cA.out.mono ?_
    rintro _ w1 ⟨rfl, hb⟩
    have HB1 := hid hb
    clear hb
    go_wp2_with fail
    go_ret
    exact ⟨rfl, HB1.out⟩
  have hw : IntKind.i64.wrap (least * N) = least * N := by
    rw [IntKind.wrap_i64]
    have a1 : 0 ≤ least * N := Int.mul_nonneg (by omega) (by omega)
    have a2 : least * N ≤ 1000 * 100 := Int.mul_le_mul (by omega) (by omega) (by omega) (by omega)
    omega
  by_cases h5 : total < least * N
  · clear h
    rw [← hN] at *
    clear hN
    go_enter Try.func5, Try.ntmps5
    go_wp2_with fail
    refine cA.out.mono ?_
    rintro _ w1 ⟨rfl, hb⟩
    have HB1 := hid hb
    clear hb
    go_wp2_with fail
    go_ret
    exact ⟨rfl, HB1.out⟩
  have h6 : 1073741824 < total := by
    generalize least * N = q at h h5
    omega
  clear h
  rw [← hN] at *
  clear hN
  go_enter Try.func5, Try.ntmps5
  go_wp2_with fail
  refine cA.out.mono ?_
  rintro _ w1 ⟨rfl, hb⟩
  have HB1 := hid hb
  clear hb
  go_wp2_with fail
  go_ret
  exact ⟨rfl, HB1.out⟩
theorem bc {w w' : World} (h : Below w.heap.size w w') {a : Addr} {v : Value} (hc : w.cell? a = some v) : w'.cell? a = some v := (h.cell (World.block_lt_of_cell? w a hc)).trans hc
def AllRel (w1 : World) (out xs : List Nat) (sum all i : Value) (wr : World) : Prop := ∃ j : Nat, j ≤ xs.length ∧ i = .int .i64 j ∧ sum = .int .i64 ((out.take j).sum : Nat) ∧ all = .int .i64 (((xs.take j).map wN).sum : Nat) ∧ Below w1.heap.size w1 wr
def IxRel (w1 : World) (n : Nat) (i : Value) (wr : World) : Prop := ∃ j : Nat, j ≤ n ∧ i = .int .i64 j ∧ Below w1.heap.size w1 wr
theorem take_sum_le (l : List Nat) (j : Nat) : (l.take j).sum ≤ l.sum := by
  have h : l.sum = (l.take j).sum + (l.drop j).sum := by rw [← List.sum_append, List.take_append_drop]
  omega
theorem take_sum_snoc {l : List Nat} {j x : Nat} (h : l[j]? = some x) : (l.take (j + 1)).sum = (l.take j).sum + x := by
  obtain ⟨hj, e⟩ := List.getElem?_eq_some_iff.1 h
  rw [List.take_succ_eq_append_getElem hj, e, List.sum_append]
  simp

set_option maxHeartbeats 2000000 in
theorem weighAll_in (W : World) (v : Value) (xs : List Nat) (R : Rd flEn 1 W v xs) (t l : Nat) (h1 : 1 ≤ xs.length) (h2 : xs.length ≤ 100) (h3 : 1 ≤ l) (h4 : l ≤ 1000) (h5 : l * xs.length ≤ t) (h6 : t ≤ 1073741824) :
    Calls Try.prog 5 #[.int .i64 (t : Int), .int .i64 (l : Int), v] W fun e W' => e = .returned (.bool true) ∧ Below W.heap.size W W' := by
  have cA := hid (law10_alive W)
  have cN := hid (fun n w => law10_num n w)
  have cS := hid (fun w v R => weigh_all w v xs R (t : Int) (l : Int))
  have HW := hid (fun x w => ref_weight x w)
  have h5' : (l : Int) * (xs.length : Int) ≤ (t : Int) := by rw [← Int.natCast_mul]; omega
  have hnw : ¬ WrongP (t : Int) (l : Int) (xs.length : Int) := by
    have : 1 ≤ l * xs.length := Nat.mul_le_mul h3 h1
    unfold WrongP; omega
  unfold ShPost shOut shErr at cS
  simp only [if_neg hnw, Int.toNat_natCast] at cS
  have hns : xs.map wN ≠ [] := by intro h; have := congrArg List.length h; simp at this; rw [this] at h1; simp at h1
  have hsum := share_sum (total := t) (least := l) hns (by rw [List.length_map]; exact h5)
  have hlen := share_len t l (xs.map wN)
  rw [List.length_map] at hlen
  have HLE := hid (fun (j a : Nat) (h : (shareL t l (xs.map wN))[j]? = some a) => share_least h)
  have HORD := hid (fun (ha : 0 < (xs.map wN).sum) (i k n m a b : Nat) hi hk hA hB => share_order (total := t) (least := l) ha (i := i) (k := k) (n := n) (m := m) (a := a) (b := b) hi hk hA hB)
  generalize shareL t l (xs.map wN) = out at cS hsum hlen HLE HORD
  obtain ⟨n, hn⟩ : ∃ n, xs.length = n := ⟨_, rfl⟩
  have hsl := sum_le xs
  have HR := hid R
  obtain ⟨A, cap, rfl, n1, m1⟩ := R.form
  unfold maxLen at m1
  have HSL := hid (fun j => sum_le (xs.take j))
  rw [hn] at h1 h2 h5 h5' n1 hlen HR ⊢
  have HN := hid hn
  have HOL := hid hlen
  have HSUM := hid hsum
  have hw : IntKind.i64.wrap ((l : Int) * (n : Int)) = (l : Int) * (n : Int) := by
    rw [IntKind.wrap_i64, ← Int.natCast_mul]
    omega
  have d1 : ¬ (n : Int) < 1 := by omega
  have d2 : ¬ (100 : Int) < (n : Int) := by omega
  have d3 : ¬ (l : Int) < 1 := by omega
  have d4 : ¬ (1000 : Int) < (l : Int) := by omega
  have d5 : ¬ (t : Int) < (l : Int) * (n : Int) := by omega
  have d6 : ¬ (1073741824 : Int) < (t : Int) := by omega
  clear hn hnw hns R hlen hsum hsl h5' h5
  go_enter Try.func5, Try.ntmps5
  go_wp2_with fail
  refine cA.out.mono ?_
  rintro _ w1 ⟨rfl, hb⟩
  have HB1 := hid hb
  have HR1 := hid (HR.out.below flEn_len hb)
  clear hb
  go_wp2_with fail
  refine (cS.out _ _ HR1.out).mono ?_
  rintro _ w2 ⟨⟨vo, rfl, hO⟩, hb⟩
  have HB2 := hid (held_next HB1.out hb)
  have HR2 := hid (HR1.out.below flEn_len hb)
  obtain ⟨Ao, capo, rfl, no, mo, hc⟩ := hO.form
  rw [HOL.out] at no hc ⊢
  obtain ⟨g, rfl, _, hg, hcell⟩ := hc (by omega)
  have HCELL := hid hcell
  have HG := hid hg
  clear hO hb hc hcell hg cS HB1 HR1
  unfold maxLen at mo
  have dn : ((n : Int) == (n : Int)) = true := by simp
  go_wp2_with fail
  refine (cN.out _ _).mono ?_
  rintro _ w3 ⟨rfl, rfl⟩
  go_wp2_with fail
  go_loopw [10, 11, 12] (fun sum all i wr => AllRel w2 out xs sum all i wr) (fun _ _ i _ => n - (intOf i).toNat)
  case atStart => exact ⟨0, Nat.zero_le _, rfl, rfl, rfl, Below.refl _ _⟩
  case round =>
    obtain ⟨j, hj, rfl, rfl, rfl, hB⟩ := hrel
    rw [HN.out] at hj
    have HB := hid hB
    have hsl := HSL.out j
    rw [List.length_take] at hsl
    have hos := take_sum_le out j
    rw [HSUM.out] at hos
    by_cases hjn : j < n
    · obtain ⟨x, hx⟩ : ∃ x, xs[j]? = some x := ⟨_, List.getElem?_eq_getElem (by rw [HN.out]; exact hjn)⟩
      obtain ⟨y, hy⟩ : ∃ y, out[j]? = some y := ⟨_, List.getElem?_eq_getElem (by rw [HOL.out]; exact hjn)⟩
      obtain ⟨bx, ox, qx, hvx, _, _, lx, sx⟩ := HR2.out.get flEn_len (by decide) hx
      injection hvx with a1 a2 a3
      subst a1 a3
      have y0 : wr.cell? ⟨bx, ox + j, none⟩ = some (.float .f64 x) := by
        have y := (hB.cell (p := ⟨bx, ox + j * 1, none⟩) lx).trans (sx 0 _ rfl)
        rwa [Nat.mul_one] at y
      have y1 : wr.cell? ⟨g, j, none⟩ = some (.int .i64 (y : Int)) := (hB.cell (p := ⟨g, j, none⟩) HG.out).trans ((HCELL.out j (by omega)).trans (intsV_get hy))
      have HLY := hid (HLE.out j y hy)
      have HGL := hid (show g < wr.heap.size from Nat.lt_of_lt_of_le HG.out hB.size)
      have HSN := hid (sum_snoc hx)
      have HON := hid (take_sum_snoc hy)
      have hos2 := take_sum_le out (j + 1)
      rw [HSUM.out, HON.out] at hos2
      have hwx := wN_le x
      have j0 : (0 : Int) ≤ (j : Int) := by omega
      have j1 : (j : Int) < (n : Int) := by omega
      have e3 : IntKind.i64.wrap ((j : Int) + 1) = (j : Int) + 1 := by rw [IntKind.wrap_i64]; omega
      generalize ((xs.take j).map wN).sum = S at hsl HSN ⊢
      generalize (out.take j).sum = T at hos hos2 HON ⊢
      have e4 : IntKind.i64.wrap ((S : Int) + (wN x : Int)) = ((S + wN x : Nat) : Int) := by rw [IntKind.wrap_i64]; omega
      have e5 : IntKind.i64.wrap ((T : Int) + (y : Int)) = ((T + y : Nat) : Int) := by rw [IntKind.wrap_i64]; omega
      have d7 : ¬ (y : Int) < (l : Int) := by have := HLY.out; omega
      have HJN := hid hjn
      have HY1 := hid y1
      clear a2 sx lx hx hy hjn hB
      go_wp2_with fail
      refine (HW.out x _).mono ?_
      rintro _ w4 ⟨rfl, hb⟩
      have HB3 := hid (held_next HB.out hb)
      have y1 := (hb.cell (p := ⟨g, j, none⟩) HGL.out).trans HY1.out
      clear hb
      go_wp2_with fail
      go_roundw
      case rel => exact ⟨j + 1, by have := HJN.out; have := HN.out; omega, by go_num, by rw [HON.out]; simp [Int.natCast_add], by rw [HSN.out]; simp [Int.natCast_add], HB3.out⟩
      case measure => have := HJN.out; simp only [intOf]; omega
    · have c3 : ¬ (j : Int) < (n : Int) := by omega
      have hjj : j = n := by omega
      rw [hjj] at hos ⊢
      rw [List.take_of_length_le (by rw [HOL.out]; omega), List.take_of_length_le (by rw [HN.out]; omega), HSUM.out]
      rw [show xs.take j = xs from List.take_of_length_le (by rw [HN.out]; omega)] at hsl
      have HRW := hid (HR2.out.below flEn_len hB)
      have HCW := hid (fun (j : Nat) (hj : j < n) => (hB.cell (p := ⟨g, j, none⟩) HG.out).trans (HCELL.out j (by omega)))
      have HGW := hid (show g < wr.heap.size from Nat.lt_of_lt_of_le HG.out hB.size)
      have HBW := hid (HB2.out.trans (hB.mono HB2.out.size))
      obtain ⟨all, hall⟩ : ∃ all, (xs.map wN).sum = all := ⟨_, rfl⟩
      rw [hall] at HORD hsl ⊢
      rename World => wa
      have c4 : ¬ (n : Int) < (n : Int) := by omega
      clear hB HB hos hall hjj
      go_wp2_with fail
      go_loopw [13] (fun i wr => IxRel wa n i wr) (fun i _ => n - (intOf i).toNat)
      case atStart => exact ⟨0, Nat.zero_le _, rfl, Below.refl _ _⟩
      case round =>
        obtain ⟨i, hi, rfl, hB⟩ := hrel
        have HBo := hid hB
        clear hB
        by_cases hin : i < n
        · by_cases ha : 0 < all
          · have a0 : (0 : Int) < (all : Int) := by omega
            have i0 : (0 : Int) ≤ (i : Int) := by omega
            have i1 : (i : Int) < (n : Int) := by omega
            have ei : IntKind.i64.wrap ((i : Int) + 1) = (i : Int) + 1 := by rw [IntKind.wrap_i64]; omega
            have HIN := hid hin
            have HA := hid ha
            clear hin
            go_wp2_with fail
            rename World => wb
            go_loopw [14] (fun i wr => IxRel wa n i wr) (fun i _ => n - (intOf i).toNat)
            case atStart => exact ⟨0, Nat.zero_le _, rfl, HBo.out⟩
            case round =>
              obtain ⟨k, hk, rfl, hB⟩ := hrel
              have HBk := hid hB
              by_cases hkn : k < n
              · obtain ⟨x, hx⟩ : ∃ x, xs[i]? = some x := ⟨_, List.getElem?_eq_getElem (by rw [HN.out]; exact HIN.out)⟩
                obtain ⟨y, hy⟩ : ∃ y, xs[k]? = some y := ⟨_, List.getElem?_eq_getElem (by rw [HN.out]; exact hkn)⟩
                obtain ⟨a, hoa⟩ : ∃ a, out[i]? = some a := ⟨_, List.getElem?_eq_getElem (by rw [HOL.out]; exact HIN.out)⟩
                obtain ⟨b, hob⟩ : ∃ b, out[k]? = some b := ⟨_, List.getElem?_eq_getElem (by rw [HOL.out]; exact hkn)⟩
                obtain ⟨bx, ox, qx, hvx, _, _, lx, sx⟩ := (HRW.out.below flEn_len hB).get flEn_len (by decide) hx
                obtain ⟨by', oy, qy, hvy, _, _, ly, sy⟩ := (HRW.out.below flEn_len hB).get flEn_len (by decide) hy
                injection hvx with a1 a2 a3
                subst a1
                injection hvy with b1 b2 b3
                injection b1 with b1
                injection b1 with b1 b4 b5
                subst b1 b4 a3
                have y0 : wr.cell? ⟨bx, ox + i, none⟩ = some (.float .f64 x) := by have y := sx 0 _ rfl; rwa [Nat.mul_one] at y
                have y1 : wr.cell? ⟨bx, ox + k, none⟩ = some (.float .f64 y) := by have y := sy 0 _ rfl; rwa [Nat.mul_one] at y
                have y2 : wr.cell? ⟨g, i, none⟩ = some (.int .i64 (a : Int)) := (hB.cell (p := ⟨g, i, none⟩) HGW.out).trans ((HCW.out i HIN.out).trans (intsV_get hoa))
                have y3 : wr.cell? ⟨g, k, none⟩ = some (.int .i64 (b : Int)) := (hB.cell (p := ⟨g, k, none⟩) HGW.out).trans ((HCW.out k hkn).trans (intsV_get hob))
                have hord := HORD.out HA.out i k (wN x) (wN y) a b (by simp [hx]) (by simp [hy]) hoa hob
                have k0 : (0 : Int) ≤ (k : Int) := by omega
                have k1 : (k : Int) < (n : Int) := by omega
                have ek : IntKind.i64.wrap ((k : Int) + 1) = (k : Int) + 1 := by rw [IntKind.wrap_i64]; omega
                have ha1 : a ≤ 1073741824 := by
                  have h1 := take_sum_le out (i + 1)
                  rw [take_sum_snoc hoa, HSUM.out] at h1
                  omega
                have hb1 : b ≤ 1073741824 := by
                  have h1 := take_sum_le out (k + 1)
                  rw [take_sum_snoc hob, HSUM.out] at h1
                  omega
                have eb : IntKind.i64.wrap ((b : Int) - 1) = (b : Int) - 1 := by rw [IntKind.wrap_i64]; omega
                have HKN := hid hkn
                have cX := hid (fun w => HW.out x w)
                have cY := hid (fun w => HW.out y w)
                generalize wN x = X at hord cX
                generalize wN y = Y at hord cY
                have hcase : (((Y : Int) < (X : Int) ∧ ¬ (X : Int) = 0 ∧ ¬ (a : Int) < (b : Int) - 1) ∨ (¬ (Y : Int) < (X : Int) ∧ (X : Int) = 0 ∧ (a : Int) = (l : Int)) ∨ (¬ (Y : Int) < (X : Int) ∧ ¬ (X : Int) = 0)) := by
                  by_cases h1 : Y < X
                  · have := hord.1 h1
                    exact .inl ⟨by omega, by omega, by omega⟩
                  · by_cases h2 : X = 0
                    · have := hord.2 h2
                      exact .inr (.inl ⟨by omega, by omega, by omega⟩)
                    · exact .inr (.inr ⟨by omega, by omega⟩)
                clear a2 b2 b3 hord hB hkn hx hy hoa hob sx lx sy ly
                obtain ⟨XI, hXI⟩ : ∃ z : Int, (X : Int) = z := ⟨_, rfl⟩
                obtain ⟨YI, hYI⟩ : ∃ z : Int, (Y : Int) = z := ⟨_, rfl⟩
                obtain ⟨aI, haI⟩ : ∃ z : Int, (a : Int) = z := ⟨_, rfl⟩
                obtain ⟨bI, hbI⟩ : ∃ z : Int, (b : Int) = z := ⟨_, rfl⟩
                rw [hXI] at cX hcase
                rw [hYI] at cY hcase
                rw [haI] at y2 hcase
                rw [hbI] at y3 hcase eb
                clear hXI hYI haI hbI ha1 hb1
                rcases hcase with ⟨e1, e2, e3⟩ | ⟨e1, e2, e3⟩ | ⟨e1, e2⟩
                · have e4 := decide_eq_true e1
                  have e5 := decide_eq_false e3
                  have e6 : (XI == 0) = false := by rw [beq_eq_false_iff_ne]; exact e2
                  go_wp2_with fail
                  have hS : (wr.drew.cell? ⟨bx, ox + i, none⟩ = some (.float .f64 x)) ∧ (wr.drew.cell? ⟨bx, ox + k, none⟩ = some (.float .f64 y)) ∧ (wr.drew.cell? ⟨g, i, none⟩ = some (.int .i64 aI)) ∧ (wr.drew.cell? ⟨g, k, none⟩ = some (.int .i64 bI)) := ⟨y0, y1, y2, y3⟩
                  refine wp_region_ord (fun w' => (w'.cell? ⟨bx, ox + i, none⟩ = some (.float .f64 x)) ∧ (w'.cell? ⟨bx, ox + k, none⟩ = some (.float .f64 y)) ∧ (w'.cell? ⟨g, i, none⟩ = some (.int .i64 aI)) ∧ (w'.cell? ⟨g, k, none⟩ = some (.int .i64 bI))) (by kernel_rfl) hS ?_
                  refine ord_still 0 rfl (v := ?_) (by kernel_rfl) (fun _ _ _ h => h) rfl (fun W hW => ?_) hS ?_
                  rotate_left
                  · try dsimp only at hW
                    go_simp
                    try with_reducible rfl
                  simp only [Act.put, List.setIfInBounds_toArray, List.set_cons_zero, List.set_cons_succ]
                  refine ord_still 1 rfl (v := ?_) (by kernel_rfl) (fun _ _ _ h => h) rfl (fun W hW => ?_) hS ?_
                  rotate_left
                  · try dsimp only at hW
                    go_simp
                    try with_reducible rfl
                  simp only [Act.put, List.setIfInBounds_toArray, List.set_cons_zero, List.set_cons_succ]
                  refine ord_still 2 rfl (v := ?_) (by kernel_rfl) (fun _ _ _ h => h) rfl (fun W hW => ?_) hS ?_
                  rotate_left
                  · try dsimp only at hW
                    go_simp
                    try with_reducible rfl
                  simp only [Act.put, List.setIfInBounds_toArray, List.set_cons_zero, List.set_cons_succ]
                  refine ord_still 3 rfl (v := ?_) (by kernel_rfl) (fun _ _ _ h => h) rfl (fun W hW => ?_) hS ?_
                  rotate_left
                  · try dsimp only at hW
                    go_simp
                    try with_reducible rfl
                  simp only [Act.put, List.setIfInBounds_toArray, List.set_cons_zero, List.set_cons_succ]
                  refine ord_still 5 rfl (v := ?_) (by kernel_rfl) (fun _ _ _ h => h) rfl (fun W hW => ?_) hS ?_
                  rotate_left
                  · try dsimp only at hW
                    go_simp
                    try with_reducible rfl
                  simp only [Act.put, List.setIfInBounds_toArray, List.set_cons_zero, List.set_cons_succ]
                  refine ord_still 6 rfl (v := ?_) (by kernel_rfl) (fun _ _ _ h => h) rfl (fun W hW => ?_) hS ?_
                  rotate_left
                  · try dsimp only at hW
                    go_simp
                    try with_reducible rfl
                  simp only [Act.put, List.setIfInBounds_toArray, List.set_cons_zero, List.set_cons_succ]
                  refine ord_still 7 rfl (v := ?_) (by kernel_rfl) (fun _ _ _ h => h) rfl (fun W hW => ?_) hS ?_
                  rotate_left
                  · try dsimp only at hW
                    go_simp
                    try with_reducible rfl
                  simp only [Act.put, List.setIfInBounds_toArray, List.set_cons_zero, List.set_cons_succ]
                  refine ord_still 8 rfl (v := ?_) (by kernel_rfl) (fun _ _ _ h => h) rfl (fun W hW => ?_) hS ?_
                  rotate_left
                  · try dsimp only at hW
                    go_simp
                    try with_reducible rfl
                  simp only [Act.put, List.setIfInBounds_toArray, List.set_cons_zero, List.set_cons_succ]
                  refine ord_alone 4 rfl (by kernel_rfl) rfl (fun K hK => ?_)
                  go_simp
                  refine (cX.out _).mono ?_
                  rintro _ w5 ⟨rfl, hb⟩
                  have HSw5 := hid (show (w5.cell? ⟨bx, ox + i, none⟩ = some (.float .f64 x)) ∧ (w5.cell? ⟨bx, ox + k, none⟩ = some (.float .f64 y)) ∧ (w5.cell? ⟨g, i, none⟩ = some (.int .i64 aI)) ∧ (w5.cell? ⟨g, k, none⟩ = some (.int .i64 bI)) from ⟨bc hb hS.1, bc hb hS.2.1, bc hb hS.2.2.1, bc hb hS.2.2.2⟩)
                  have HBw5 := hid (HBk.out.drew.trans (hb.mono HBk.out.drew.size))
                  clear hb
                  clear hS
                  have hS : (w5.cell? ⟨bx, ox + i, none⟩ = some (.float .f64 x)) ∧ (w5.cell? ⟨bx, ox + k, none⟩ = some (.float .f64 y)) ∧ (w5.cell? ⟨g, i, none⟩ = some (.int .i64 aI)) ∧ (w5.cell? ⟨g, k, none⟩ = some (.int .i64 bI)) := HSw5.out
                  refine hK.out _ _ hS ?_
                  clear hK
                  refine ord_alone 9 rfl (by kernel_rfl) rfl (fun K hK => ?_)
                  go_simp
                  refine (cY.out _).mono ?_
                  rintro _ w6 ⟨rfl, hb⟩
                  have HSw6 := hid (show (w6.cell? ⟨bx, ox + i, none⟩ = some (.float .f64 x)) ∧ (w6.cell? ⟨bx, ox + k, none⟩ = some (.float .f64 y)) ∧ (w6.cell? ⟨g, i, none⟩ = some (.int .i64 aI)) ∧ (w6.cell? ⟨g, k, none⟩ = some (.int .i64 bI)) from ⟨bc hb hS.1, bc hb hS.2.1, bc hb hS.2.2.1, bc hb hS.2.2.2⟩)
                  have HBw6 := hid (HBw5.out.trans (hb.mono HBw5.out.size))
                  clear hb
                  clear hS
                  have hS : (w6.cell? ⟨bx, ox + i, none⟩ = some (.float .f64 x)) ∧ (w6.cell? ⟨bx, ox + k, none⟩ = some (.float .f64 y)) ∧ (w6.cell? ⟨g, i, none⟩ = some (.int .i64 aI)) ∧ (w6.cell? ⟨g, k, none⟩ = some (.int .i64 bI)) := HSw6.out
                  refine hK.out _ _ hS ?_
                  clear hK
                  refine ord_still 10 rfl (v := ?_) (by kernel_rfl) (fun _ _ _ h => h) rfl (fun W hW => ?_) hS ?_
                  rotate_left
                  · try dsimp only at hW
                    go_simp
                    try with_reducible rfl
                  simp only [Act.put, List.setIfInBounds_toArray, List.set_cons_zero, List.set_cons_succ]
                  refine ord_still 11 rfl (v := ?_) (by kernel_rfl) (fun _ _ _ h => h) rfl (fun W hW => ?_) hS ?_
                  rotate_left
                  · try dsimp only at hW
                    go_simp
                    try with_reducible rfl
                  simp only [Act.put, List.setIfInBounds_toArray, List.set_cons_zero, List.set_cons_succ]
                  refine ord_still 12 rfl (v := ?_) (by kernel_rfl) (fun _ _ _ h => h) rfl (fun W hW => ?_) hS ?_
                  rotate_left
                  · try dsimp only at hW
                    go_simp
                    try with_reducible rfl
                  simp only [Act.put, List.setIfInBounds_toArray, List.set_cons_zero, List.set_cons_succ]
                  refine ord_still 13 rfl (v := ?_) (by kernel_rfl) (fun _ _ _ h => h) rfl (fun W hW => ?_) hS ?_
                  rotate_left
                  · try dsimp only at hW
                    go_simp
                    try with_reducible rfl
                  simp only [Act.put, List.setIfInBounds_toArray, List.set_cons_zero, List.set_cons_succ]
                  refine ord_still 14 rfl (v := ?_) (by kernel_rfl) (fun _ _ _ h => h) rfl (fun W hW => ?_) hS ?_
                  rotate_left
                  · try dsimp only at hW
                    go_simp
                    try with_reducible rfl
                  simp only [Act.put, List.setIfInBounds_toArray, List.set_cons_zero, List.set_cons_succ]
                  refine ord_still 15 rfl (v := ?_) (by kernel_rfl) (fun _ _ _ h => h) rfl (fun W hW => ?_) hS ?_
                  rotate_left
                  · try dsimp only at hW
                    go_simp
                    try with_reducible rfl
                  simp only [Act.put, List.setIfInBounds_toArray, List.set_cons_zero, List.set_cons_succ]
                  refine ord_still 16 rfl (v := ?_) (by kernel_rfl) (fun _ _ _ h => h) rfl (fun W hW => ?_) hS ?_
                  rotate_left
                  · try dsimp only at hW
                    go_simp
                    try with_reducible rfl
                  simp only [Act.put, List.setIfInBounds_toArray, List.set_cons_zero, List.set_cons_succ]
                  refine ord_still 17 rfl (v := ?_) (by kernel_rfl) (fun _ _ _ h => h) rfl (fun W hW => ?_) hS ?_
                  rotate_left
                  · try dsimp only at hW
                    go_simp
                    try with_reducible rfl
                  simp only [Act.put, List.setIfInBounds_toArray, List.set_cons_zero, List.set_cons_succ]
                  refine ord_still 18 rfl (v := ?_) (by kernel_rfl) (fun _ _ _ h => h) rfl (fun W hW => ?_) hS ?_
                  rotate_left
                  · try dsimp only at hW
                    go_simp
                    try with_reducible rfl
                  simp only [Act.put, List.setIfInBounds_toArray, List.set_cons_zero, List.set_cons_succ]
                  refine ord_still 19 rfl (v := ?_) (by kernel_rfl) (fun _ _ _ h => h) rfl (fun W hW => ?_) hS ?_
                  rotate_left
                  · try dsimp only at hW
                    go_simp
                    try with_reducible rfl
                  simp only [Act.put, List.setIfInBounds_toArray, List.set_cons_zero, List.set_cons_succ]
                  refine ord_still 20 rfl (v := ?_) (by kernel_rfl) (fun _ _ _ h => h) rfl (fun W hW => ?_) hS ?_
                  rotate_left
                  · try dsimp only at hW
                    go_simp
                    try with_reducible rfl
                  simp only [Act.put, List.setIfInBounds_toArray, List.set_cons_zero, List.set_cons_succ]
                  refine ord_still 21 rfl (v := ?_) (by kernel_rfl) (fun _ _ _ h => h) rfl (fun W hW => ?_) hS ?_
                  rotate_left
                  · try dsimp only at hW
                    go_simp
                    try with_reducible rfl
                  simp only [Act.put, List.setIfInBounds_toArray, List.set_cons_zero, List.set_cons_succ]
                  refine ord_still 22 rfl (v := ?_) (by kernel_rfl) (fun _ _ _ h => h) rfl (fun W hW => ?_) hS ?_
                  rotate_left
                  · try dsimp only at hW
                    go_simp
                    try with_reducible rfl
                  simp only [Act.put, List.setIfInBounds_toArray, List.set_cons_zero, List.set_cons_succ]
                  refine ord_still 23 rfl (v := ?_) (by kernel_rfl) (fun _ _ _ h => h) rfl (fun W hW => ?_) hS ?_
                  rotate_left
                  · try dsimp only at hW
                    go_simp
                    try with_reducible rfl
                  simp only [Act.put, List.setIfInBounds_toArray, List.set_cons_zero, List.set_cons_succ]
                  refine ord_still 24 rfl (v := ?_) (by kernel_rfl) (fun _ _ _ h => h) rfl (fun W hW => ?_) hS ?_
                  rotate_left
                  · try dsimp only at hW
                    go_simp
                    try with_reducible rfl
                  simp only [Act.put, List.setIfInBounds_toArray, List.set_cons_zero, List.set_cons_succ]
                  refine ord_still 25 rfl (v := ?_) (by kernel_rfl) (fun _ _ _ h => h) rfl (fun W hW => ?_) hS ?_
                  rotate_left
                  · try dsimp only at hW
                    go_simp
                    try with_reducible rfl
                  simp only [Act.put, List.setIfInBounds_toArray, List.set_cons_zero, List.set_cons_succ]
                  refine ord_still 26 rfl (v := ?_) (by kernel_rfl) (fun _ _ _ h => h) rfl (fun W hW => ?_) hS ?_
                  rotate_left
                  · try dsimp only at hW
                    go_simp
                    try with_reducible rfl
                  simp only [Act.put, List.setIfInBounds_toArray, List.set_cons_zero, List.set_cons_succ]
                  refine ord_still 27 rfl (v := ?_) (by kernel_rfl) (fun _ _ _ h => h) rfl (fun W hW => ?_) hS ?_
                  rotate_left
                  · try dsimp only at hW
                    go_simp
                    try with_reducible rfl
                  simp only [Act.put, List.setIfInBounds_toArray, List.set_cons_zero, List.set_cons_succ]
                  refine ord_alone 28 rfl (by kernel_rfl) rfl (fun K hK => ?_)
                  go_simp
                  refine (cX.out _).mono ?_
                  rintro _ w7 ⟨rfl, hb⟩
                  have HSw7 := hid (show (w7.cell? ⟨bx, ox + i, none⟩ = some (.float .f64 x)) ∧ (w7.cell? ⟨bx, ox + k, none⟩ = some (.float .f64 y)) ∧ (w7.cell? ⟨g, i, none⟩ = some (.int .i64 aI)) ∧ (w7.cell? ⟨g, k, none⟩ = some (.int .i64 bI)) from ⟨bc hb hS.1, bc hb hS.2.1, bc hb hS.2.2.1, bc hb hS.2.2.2⟩)
                  have HBw7 := hid (HBw6.out.trans (hb.mono HBw6.out.size))
                  clear hb
                  clear hS
                  have hS : (w7.cell? ⟨bx, ox + i, none⟩ = some (.float .f64 x)) ∧ (w7.cell? ⟨bx, ox + k, none⟩ = some (.float .f64 y)) ∧ (w7.cell? ⟨g, i, none⟩ = some (.int .i64 aI)) ∧ (w7.cell? ⟨g, k, none⟩ = some (.int .i64 bI)) := HSw7.out
                  refine hK.out _ _ hS ?_
                  clear hK
                  refine ord_still 29 rfl (v := ?_) (by kernel_rfl) (fun _ _ _ h => h) rfl (fun W hW => ?_) hS ?_
                  rotate_left
                  · try dsimp only at hW
                    go_simp
                    try with_reducible rfl
                  simp only [Act.put, List.setIfInBounds_toArray, List.set_cons_zero, List.set_cons_succ]
                  refine ord_still 30 rfl (v := ?_) (by kernel_rfl) (fun _ _ _ h => h) rfl (fun W hW => ?_) hS ?_
                  rotate_left
                  · try dsimp only at hW
                    go_simp
                    try with_reducible rfl
                  simp only [Act.put, List.setIfInBounds_toArray, List.set_cons_zero, List.set_cons_succ]
                  refine ord_skip 31 rfl (by kernel_rfl) (fun _ _ _ h => h) rfl hS ?_
                  simp only [Act.put, List.setIfInBounds_toArray, List.set_cons_zero, List.set_cons_succ]
                  refine ord_skip 32 rfl (by kernel_rfl) (fun _ _ _ h => h) rfl hS ?_
                  simp only [Act.put, List.setIfInBounds_toArray, List.set_cons_zero, List.set_cons_succ]
                  refine ord_skip 33 rfl (by kernel_rfl) (fun _ _ _ h => h) rfl hS ?_
                  simp only [Act.put, List.setIfInBounds_toArray, List.set_cons_zero, List.set_cons_succ]
                  refine ord_skip 34 rfl (by kernel_rfl) (fun _ _ _ h => h) rfl hS ?_
                  simp only [Act.put, List.setIfInBounds_toArray, List.set_cons_zero, List.set_cons_succ]
                  refine ord_skip 35 rfl (by kernel_rfl) (fun _ _ _ h => h) rfl hS ?_
                  simp only [Act.put, List.setIfInBounds_toArray, List.set_cons_zero, List.set_cons_succ]
                  refine ord_skip 36 rfl (by kernel_rfl) (fun _ _ _ h => h) rfl hS ?_
                  simp only [Act.put, List.setIfInBounds_toArray, List.set_cons_zero, List.set_cons_succ]
                  refine ord_still 37 rfl (v := ?_) (by kernel_rfl) (fun _ _ _ h => h) rfl (fun W hW => ?_) hS ?_
                  rotate_left
                  · try dsimp only at hW
                    go_simp
                    try with_reducible rfl
                  simp only [Act.put, List.setIfInBounds_toArray, List.set_cons_zero, List.set_cons_succ]
                  refine ord_still 38 rfl (v := ?_) (by kernel_rfl) (fun _ _ _ h => h) rfl (fun W hW => ?_) hS ?_
                  rotate_left
                  · try dsimp only at hW
                    go_simp
                    try with_reducible rfl
                  simp only [Act.put, List.setIfInBounds_toArray, List.set_cons_zero, List.set_cons_succ]
                  refine ord_done (by kernel_rfl) ?_
                  clear hS
                  go_wp2_with fail
                  go_roundw
                  case rel => exact ⟨k + 1, HKN.out, by go_num, HBw7.out⟩
                  case measure => have := HKN.out; simp only [intOf]; omega
                · subst e2 e3
                  have e5 := decide_eq_false e1
                  go_wp2_with fail
                  have hS : (wr.drew.cell? ⟨bx, ox + i, none⟩ = some (.float .f64 x)) ∧ (wr.drew.cell? ⟨bx, ox + k, none⟩ = some (.float .f64 y)) ∧ (wr.drew.cell? ⟨g, i, none⟩ = some (.int .i64 (l : Int))) ∧ (wr.drew.cell? ⟨g, k, none⟩ = some (.int .i64 bI)) := ⟨y0, y1, y2, y3⟩
                  refine wp_region_ord (fun w' => (w'.cell? ⟨bx, ox + i, none⟩ = some (.float .f64 x)) ∧ (w'.cell? ⟨bx, ox + k, none⟩ = some (.float .f64 y)) ∧ (w'.cell? ⟨g, i, none⟩ = some (.int .i64 (l : Int))) ∧ (w'.cell? ⟨g, k, none⟩ = some (.int .i64 bI))) (by kernel_rfl) hS ?_
                  refine ord_still 0 rfl (v := ?_) (by kernel_rfl) (fun _ _ _ h => h) rfl (fun W hW => ?_) hS ?_
                  rotate_left
                  · try dsimp only at hW
                    go_simp
                    try with_reducible rfl
                  simp only [Act.put, List.setIfInBounds_toArray, List.set_cons_zero, List.set_cons_succ]
                  refine ord_still 1 rfl (v := ?_) (by kernel_rfl) (fun _ _ _ h => h) rfl (fun W hW => ?_) hS ?_
                  rotate_left
                  · try dsimp only at hW
                    go_simp
                    try with_reducible rfl
                  simp only [Act.put, List.setIfInBounds_toArray, List.set_cons_zero, List.set_cons_succ]
                  refine ord_still 2 rfl (v := ?_) (by kernel_rfl) (fun _ _ _ h => h) rfl (fun W hW => ?_) hS ?_
                  rotate_left
                  · try dsimp only at hW
                    go_simp
                    try with_reducible rfl
                  simp only [Act.put, List.setIfInBounds_toArray, List.set_cons_zero, List.set_cons_succ]
                  refine ord_still 3 rfl (v := ?_) (by kernel_rfl) (fun _ _ _ h => h) rfl (fun W hW => ?_) hS ?_
                  rotate_left
                  · try dsimp only at hW
                    go_simp
                    try with_reducible rfl
                  simp only [Act.put, List.setIfInBounds_toArray, List.set_cons_zero, List.set_cons_succ]
                  refine ord_still 5 rfl (v := ?_) (by kernel_rfl) (fun _ _ _ h => h) rfl (fun W hW => ?_) hS ?_
                  rotate_left
                  · try dsimp only at hW
                    go_simp
                    try with_reducible rfl
                  simp only [Act.put, List.setIfInBounds_toArray, List.set_cons_zero, List.set_cons_succ]
                  refine ord_still 6 rfl (v := ?_) (by kernel_rfl) (fun _ _ _ h => h) rfl (fun W hW => ?_) hS ?_
                  rotate_left
                  · try dsimp only at hW
                    go_simp
                    try with_reducible rfl
                  simp only [Act.put, List.setIfInBounds_toArray, List.set_cons_zero, List.set_cons_succ]
                  refine ord_still 7 rfl (v := ?_) (by kernel_rfl) (fun _ _ _ h => h) rfl (fun W hW => ?_) hS ?_
                  rotate_left
                  · try dsimp only at hW
                    go_simp
                    try with_reducible rfl
                  simp only [Act.put, List.setIfInBounds_toArray, List.set_cons_zero, List.set_cons_succ]
                  refine ord_still 8 rfl (v := ?_) (by kernel_rfl) (fun _ _ _ h => h) rfl (fun W hW => ?_) hS ?_
                  rotate_left
                  · try dsimp only at hW
                    go_simp
                    try with_reducible rfl
                  simp only [Act.put, List.setIfInBounds_toArray, List.set_cons_zero, List.set_cons_succ]
                  refine ord_alone 4 rfl (by kernel_rfl) rfl (fun K hK => ?_)
                  go_simp
                  refine (cX.out _).mono ?_
                  rintro _ w5 ⟨rfl, hb⟩
                  have HSw5 := hid (show (w5.cell? ⟨bx, ox + i, none⟩ = some (.float .f64 x)) ∧ (w5.cell? ⟨bx, ox + k, none⟩ = some (.float .f64 y)) ∧ (w5.cell? ⟨g, i, none⟩ = some (.int .i64 (l : Int))) ∧ (w5.cell? ⟨g, k, none⟩ = some (.int .i64 bI)) from ⟨bc hb hS.1, bc hb hS.2.1, bc hb hS.2.2.1, bc hb hS.2.2.2⟩)
                  have HBw5 := hid (HBk.out.drew.trans (hb.mono HBk.out.drew.size))
                  clear hb
                  clear hS
                  have hS : (w5.cell? ⟨bx, ox + i, none⟩ = some (.float .f64 x)) ∧ (w5.cell? ⟨bx, ox + k, none⟩ = some (.float .f64 y)) ∧ (w5.cell? ⟨g, i, none⟩ = some (.int .i64 (l : Int))) ∧ (w5.cell? ⟨g, k, none⟩ = some (.int .i64 bI)) := HSw5.out
                  refine hK.out _ _ hS ?_
                  clear hK
                  refine ord_alone 9 rfl (by kernel_rfl) rfl (fun K hK => ?_)
                  go_simp
                  refine (cY.out _).mono ?_
                  rintro _ w6 ⟨rfl, hb⟩
                  have HSw6 := hid (show (w6.cell? ⟨bx, ox + i, none⟩ = some (.float .f64 x)) ∧ (w6.cell? ⟨bx, ox + k, none⟩ = some (.float .f64 y)) ∧ (w6.cell? ⟨g, i, none⟩ = some (.int .i64 (l : Int))) ∧ (w6.cell? ⟨g, k, none⟩ = some (.int .i64 bI)) from ⟨bc hb hS.1, bc hb hS.2.1, bc hb hS.2.2.1, bc hb hS.2.2.2⟩)
                  have HBw6 := hid (HBw5.out.trans (hb.mono HBw5.out.size))
                  clear hb
                  clear hS
                  have hS : (w6.cell? ⟨bx, ox + i, none⟩ = some (.float .f64 x)) ∧ (w6.cell? ⟨bx, ox + k, none⟩ = some (.float .f64 y)) ∧ (w6.cell? ⟨g, i, none⟩ = some (.int .i64 (l : Int))) ∧ (w6.cell? ⟨g, k, none⟩ = some (.int .i64 bI)) := HSw6.out
                  refine hK.out _ _ hS ?_
                  clear hK
                  refine ord_still 10 rfl (v := ?_) (by kernel_rfl) (fun _ _ _ h => h) rfl (fun W hW => ?_) hS ?_
                  rotate_left
                  · try dsimp only at hW
                    go_simp
                    try with_reducible rfl
                  simp only [Act.put, List.setIfInBounds_toArray, List.set_cons_zero, List.set_cons_succ]
                  refine ord_still 11 rfl (v := ?_) (by kernel_rfl) (fun _ _ _ h => h) rfl (fun W hW => ?_) hS ?_
                  rotate_left
                  · try dsimp only at hW
                    go_simp
                    try with_reducible rfl
                  simp only [Act.put, List.setIfInBounds_toArray, List.set_cons_zero, List.set_cons_succ]
                  refine ord_skip 12 rfl (by kernel_rfl) (fun _ _ _ h => h) rfl hS ?_
                  simp only [Act.put, List.setIfInBounds_toArray, List.set_cons_zero, List.set_cons_succ]
                  refine ord_skip 13 rfl (by kernel_rfl) (fun _ _ _ h => h) rfl hS ?_
                  simp only [Act.put, List.setIfInBounds_toArray, List.set_cons_zero, List.set_cons_succ]
                  refine ord_skip 14 rfl (by kernel_rfl) (fun _ _ _ h => h) rfl hS ?_
                  simp only [Act.put, List.setIfInBounds_toArray, List.set_cons_zero, List.set_cons_succ]
                  refine ord_skip 15 rfl (by kernel_rfl) (fun _ _ _ h => h) rfl hS ?_
                  simp only [Act.put, List.setIfInBounds_toArray, List.set_cons_zero, List.set_cons_succ]
                  refine ord_skip 16 rfl (by kernel_rfl) (fun _ _ _ h => h) rfl hS ?_
                  simp only [Act.put, List.setIfInBounds_toArray, List.set_cons_zero, List.set_cons_succ]
                  refine ord_skip 17 rfl (by kernel_rfl) (fun _ _ _ h => h) rfl hS ?_
                  simp only [Act.put, List.setIfInBounds_toArray, List.set_cons_zero, List.set_cons_succ]
                  refine ord_skip 18 rfl (by kernel_rfl) (fun _ _ _ h => h) rfl hS ?_
                  simp only [Act.put, List.setIfInBounds_toArray, List.set_cons_zero, List.set_cons_succ]
                  refine ord_skip 19 rfl (by kernel_rfl) (fun _ _ _ h => h) rfl hS ?_
                  simp only [Act.put, List.setIfInBounds_toArray, List.set_cons_zero, List.set_cons_succ]
                  refine ord_skip 20 rfl (by kernel_rfl) (fun _ _ _ h => h) rfl hS ?_
                  simp only [Act.put, List.setIfInBounds_toArray, List.set_cons_zero, List.set_cons_succ]
                  refine ord_skip 21 rfl (by kernel_rfl) (fun _ _ _ h => h) rfl hS ?_
                  simp only [Act.put, List.setIfInBounds_toArray, List.set_cons_zero, List.set_cons_succ]
                  refine ord_still 22 rfl (v := ?_) (by kernel_rfl) (fun _ _ _ h => h) rfl (fun W hW => ?_) hS ?_
                  rotate_left
                  · try dsimp only at hW
                    go_simp
                    try with_reducible rfl
                  simp only [Act.put, List.setIfInBounds_toArray, List.set_cons_zero, List.set_cons_succ]
                  refine ord_still 23 rfl (v := ?_) (by kernel_rfl) (fun _ _ _ h => h) rfl (fun W hW => ?_) hS ?_
                  rotate_left
                  · try dsimp only at hW
                    go_simp
                    try with_reducible rfl
                  simp only [Act.put, List.setIfInBounds_toArray, List.set_cons_zero, List.set_cons_succ]
                  refine ord_still 24 rfl (v := ?_) (by kernel_rfl) (fun _ _ _ h => h) rfl (fun W hW => ?_) hS ?_
                  rotate_left
                  · try dsimp only at hW
                    go_simp
                    try with_reducible rfl
                  simp only [Act.put, List.setIfInBounds_toArray, List.set_cons_zero, List.set_cons_succ]
                  refine ord_still 25 rfl (v := ?_) (by kernel_rfl) (fun _ _ _ h => h) rfl (fun W hW => ?_) hS ?_
                  rotate_left
                  · try dsimp only at hW
                    go_simp
                    try with_reducible rfl
                  simp only [Act.put, List.setIfInBounds_toArray, List.set_cons_zero, List.set_cons_succ]
                  refine ord_still 26 rfl (v := ?_) (by kernel_rfl) (fun _ _ _ h => h) rfl (fun W hW => ?_) hS ?_
                  rotate_left
                  · try dsimp only at hW
                    go_simp
                    try with_reducible rfl
                  simp only [Act.put, List.setIfInBounds_toArray, List.set_cons_zero, List.set_cons_succ]
                  refine ord_still 27 rfl (v := ?_) (by kernel_rfl) (fun _ _ _ h => h) rfl (fun W hW => ?_) hS ?_
                  rotate_left
                  · try dsimp only at hW
                    go_simp
                    try with_reducible rfl
                  simp only [Act.put, List.setIfInBounds_toArray, List.set_cons_zero, List.set_cons_succ]
                  refine ord_alone 28 rfl (by kernel_rfl) rfl (fun K hK => ?_)
                  go_simp
                  refine (cX.out _).mono ?_
                  rintro _ w7 ⟨rfl, hb⟩
                  have HSw7 := hid (show (w7.cell? ⟨bx, ox + i, none⟩ = some (.float .f64 x)) ∧ (w7.cell? ⟨bx, ox + k, none⟩ = some (.float .f64 y)) ∧ (w7.cell? ⟨g, i, none⟩ = some (.int .i64 (l : Int))) ∧ (w7.cell? ⟨g, k, none⟩ = some (.int .i64 bI)) from ⟨bc hb hS.1, bc hb hS.2.1, bc hb hS.2.2.1, bc hb hS.2.2.2⟩)
                  have HBw7 := hid (HBw6.out.trans (hb.mono HBw6.out.size))
                  clear hb
                  clear hS
                  have hS : (w7.cell? ⟨bx, ox + i, none⟩ = some (.float .f64 x)) ∧ (w7.cell? ⟨bx, ox + k, none⟩ = some (.float .f64 y)) ∧ (w7.cell? ⟨g, i, none⟩ = some (.int .i64 (l : Int))) ∧ (w7.cell? ⟨g, k, none⟩ = some (.int .i64 bI)) := HSw7.out
                  refine hK.out _ _ hS ?_
                  clear hK
                  refine ord_still 29 rfl (v := ?_) (by kernel_rfl) (fun _ _ _ h => h) rfl (fun W hW => ?_) hS ?_
                  rotate_left
                  · try dsimp only at hW
                    go_simp
                    try with_reducible rfl
                  simp only [Act.put, List.setIfInBounds_toArray, List.set_cons_zero, List.set_cons_succ]
                  refine ord_still 30 rfl (v := ?_) (by kernel_rfl) (fun _ _ _ h => h) rfl (fun W hW => ?_) hS ?_
                  rotate_left
                  · try dsimp only at hW
                    go_simp
                    try with_reducible rfl
                  simp only [Act.put, List.setIfInBounds_toArray, List.set_cons_zero, List.set_cons_succ]
                  refine ord_still 31 rfl (v := ?_) (by kernel_rfl) (fun _ _ _ h => h) rfl (fun W hW => ?_) hS ?_
                  rotate_left
                  · try dsimp only at hW
                    go_simp
                    try with_reducible rfl
                  simp only [Act.put, List.setIfInBounds_toArray, List.set_cons_zero, List.set_cons_succ]
                  refine ord_still 32 rfl (v := ?_) (by kernel_rfl) (fun _ _ _ h => h) rfl (fun W hW => ?_) hS ?_
                  rotate_left
                  · try dsimp only at hW
                    go_simp
                    try with_reducible rfl
                  simp only [Act.put, List.setIfInBounds_toArray, List.set_cons_zero, List.set_cons_succ]
                  refine ord_still 33 rfl (v := ?_) (by kernel_rfl) (fun _ _ _ h => h) rfl (fun W hW => ?_) hS ?_
                  rotate_left
                  · try dsimp only at hW
                    go_simp
                    try with_reducible rfl
                  simp only [Act.put, List.setIfInBounds_toArray, List.set_cons_zero, List.set_cons_succ]
                  refine ord_still 34 rfl (v := ?_) (by kernel_rfl) (fun _ _ _ h => h) rfl (fun W hW => ?_) hS ?_
                  rotate_left
                  · try dsimp only at hW
                    go_simp
                    try with_reducible rfl
                  simp only [Act.put, List.setIfInBounds_toArray, List.set_cons_zero, List.set_cons_succ]
                  refine ord_still 35 rfl (v := ?_) (by kernel_rfl) (fun _ _ _ h => h) rfl (fun W hW => ?_) hS ?_
                  rotate_left
                  · try dsimp only at hW
                    go_simp
                    try with_reducible rfl
                  simp only [Act.put, List.setIfInBounds_toArray, List.set_cons_zero, List.set_cons_succ]
                  refine ord_still 36 rfl (v := ?_) (by kernel_rfl) (fun _ _ _ h => h) rfl (fun W hW => ?_) hS ?_
                  rotate_left
                  · try dsimp only at hW
                    go_simp
                    try with_reducible rfl
                  simp only [Act.put, List.setIfInBounds_toArray, List.set_cons_zero, List.set_cons_succ]
                  refine ord_still 37 rfl (v := ?_) (by kernel_rfl) (fun _ _ _ h => h) rfl (fun W hW => ?_) hS ?_
                  rotate_left
                  · try dsimp only at hW
                    go_simp
                    try with_reducible rfl
                  simp only [Act.put, List.setIfInBounds_toArray, List.set_cons_zero, List.set_cons_succ]
                  refine ord_still 38 rfl (v := ?_) (by kernel_rfl) (fun _ _ _ h => h) rfl (fun W hW => ?_) hS ?_
                  rotate_left
                  · try dsimp only at hW
                    go_simp
                    try with_reducible rfl
                  simp only [Act.put, List.setIfInBounds_toArray, List.set_cons_zero, List.set_cons_succ]
                  refine ord_done (by kernel_rfl) ?_
                  clear hS
                  go_wp2_with fail
                  go_roundw
                  case rel => exact ⟨k + 1, HKN.out, by go_num, HBw7.out⟩
                  case measure => have := HKN.out; simp only [intOf]; omega
                · have e5 := decide_eq_false e1
                  have e6 : (XI == 0) = false := by rw [beq_eq_false_iff_ne]; exact e2
                  go_wp2_with fail
                  have hS : (wr.drew.cell? ⟨bx, ox + i, none⟩ = some (.float .f64 x)) ∧ (wr.drew.cell? ⟨bx, ox + k, none⟩ = some (.float .f64 y)) ∧ (wr.drew.cell? ⟨g, i, none⟩ = some (.int .i64 aI)) ∧ (wr.drew.cell? ⟨g, k, none⟩ = some (.int .i64 bI)) := ⟨y0, y1, y2, y3⟩
                  refine wp_region_ord (fun w' => (w'.cell? ⟨bx, ox + i, none⟩ = some (.float .f64 x)) ∧ (w'.cell? ⟨bx, ox + k, none⟩ = some (.float .f64 y)) ∧ (w'.cell? ⟨g, i, none⟩ = some (.int .i64 aI)) ∧ (w'.cell? ⟨g, k, none⟩ = some (.int .i64 bI))) (by kernel_rfl) hS ?_
                  refine ord_still 0 rfl (v := ?_) (by kernel_rfl) (fun _ _ _ h => h) rfl (fun W hW => ?_) hS ?_
                  rotate_left
                  · try dsimp only at hW
                    go_simp
                    try with_reducible rfl
                  simp only [Act.put, List.setIfInBounds_toArray, List.set_cons_zero, List.set_cons_succ]
                  refine ord_still 1 rfl (v := ?_) (by kernel_rfl) (fun _ _ _ h => h) rfl (fun W hW => ?_) hS ?_
                  rotate_left
                  · try dsimp only at hW
                    go_simp
                    try with_reducible rfl
                  simp only [Act.put, List.setIfInBounds_toArray, List.set_cons_zero, List.set_cons_succ]
                  refine ord_still 2 rfl (v := ?_) (by kernel_rfl) (fun _ _ _ h => h) rfl (fun W hW => ?_) hS ?_
                  rotate_left
                  · try dsimp only at hW
                    go_simp
                    try with_reducible rfl
                  simp only [Act.put, List.setIfInBounds_toArray, List.set_cons_zero, List.set_cons_succ]
                  refine ord_still 3 rfl (v := ?_) (by kernel_rfl) (fun _ _ _ h => h) rfl (fun W hW => ?_) hS ?_
                  rotate_left
                  · try dsimp only at hW
                    go_simp
                    try with_reducible rfl
                  simp only [Act.put, List.setIfInBounds_toArray, List.set_cons_zero, List.set_cons_succ]
                  refine ord_still 5 rfl (v := ?_) (by kernel_rfl) (fun _ _ _ h => h) rfl (fun W hW => ?_) hS ?_
                  rotate_left
                  · try dsimp only at hW
                    go_simp
                    try with_reducible rfl
                  simp only [Act.put, List.setIfInBounds_toArray, List.set_cons_zero, List.set_cons_succ]
                  refine ord_still 6 rfl (v := ?_) (by kernel_rfl) (fun _ _ _ h => h) rfl (fun W hW => ?_) hS ?_
                  rotate_left
                  · try dsimp only at hW
                    go_simp
                    try with_reducible rfl
                  simp only [Act.put, List.setIfInBounds_toArray, List.set_cons_zero, List.set_cons_succ]
                  refine ord_still 7 rfl (v := ?_) (by kernel_rfl) (fun _ _ _ h => h) rfl (fun W hW => ?_) hS ?_
                  rotate_left
                  · try dsimp only at hW
                    go_simp
                    try with_reducible rfl
                  simp only [Act.put, List.setIfInBounds_toArray, List.set_cons_zero, List.set_cons_succ]
                  refine ord_still 8 rfl (v := ?_) (by kernel_rfl) (fun _ _ _ h => h) rfl (fun W hW => ?_) hS ?_
                  rotate_left
                  · try dsimp only at hW
                    go_simp
                    try with_reducible rfl
                  simp only [Act.put, List.setIfInBounds_toArray, List.set_cons_zero, List.set_cons_succ]
                  refine ord_alone 4 rfl (by kernel_rfl) rfl (fun K hK => ?_)
                  go_simp
                  refine (cX.out _).mono ?_
                  rintro _ w5 ⟨rfl, hb⟩
                  have HSw5 := hid (show (w5.cell? ⟨bx, ox + i, none⟩ = some (.float .f64 x)) ∧ (w5.cell? ⟨bx, ox + k, none⟩ = some (.float .f64 y)) ∧ (w5.cell? ⟨g, i, none⟩ = some (.int .i64 aI)) ∧ (w5.cell? ⟨g, k, none⟩ = some (.int .i64 bI)) from ⟨bc hb hS.1, bc hb hS.2.1, bc hb hS.2.2.1, bc hb hS.2.2.2⟩)
                  have HBw5 := hid (HBk.out.drew.trans (hb.mono HBk.out.drew.size))
                  clear hb
                  clear hS
                  have hS : (w5.cell? ⟨bx, ox + i, none⟩ = some (.float .f64 x)) ∧ (w5.cell? ⟨bx, ox + k, none⟩ = some (.float .f64 y)) ∧ (w5.cell? ⟨g, i, none⟩ = some (.int .i64 aI)) ∧ (w5.cell? ⟨g, k, none⟩ = some (.int .i64 bI)) := HSw5.out
                  refine hK.out _ _ hS ?_
                  clear hK
                  refine ord_alone 9 rfl (by kernel_rfl) rfl (fun K hK => ?_)
                  go_simp
                  refine (cY.out _).mono ?_
                  rintro _ w6 ⟨rfl, hb⟩
                  have HSw6 := hid (show (w6.cell? ⟨bx, ox + i, none⟩ = some (.float .f64 x)) ∧ (w6.cell? ⟨bx, ox + k, none⟩ = some (.float .f64 y)) ∧ (w6.cell? ⟨g, i, none⟩ = some (.int .i64 aI)) ∧ (w6.cell? ⟨g, k, none⟩ = some (.int .i64 bI)) from ⟨bc hb hS.1, bc hb hS.2.1, bc hb hS.2.2.1, bc hb hS.2.2.2⟩)
                  have HBw6 := hid (HBw5.out.trans (hb.mono HBw5.out.size))
                  clear hb
                  clear hS
                  have hS : (w6.cell? ⟨bx, ox + i, none⟩ = some (.float .f64 x)) ∧ (w6.cell? ⟨bx, ox + k, none⟩ = some (.float .f64 y)) ∧ (w6.cell? ⟨g, i, none⟩ = some (.int .i64 aI)) ∧ (w6.cell? ⟨g, k, none⟩ = some (.int .i64 bI)) := HSw6.out
                  refine hK.out _ _ hS ?_
                  clear hK
                  refine ord_still 10 rfl (v := ?_) (by kernel_rfl) (fun _ _ _ h => h) rfl (fun W hW => ?_) hS ?_
                  rotate_left
                  · try dsimp only at hW
                    go_simp
                    try with_reducible rfl
                  simp only [Act.put, List.setIfInBounds_toArray, List.set_cons_zero, List.set_cons_succ]
                  refine ord_still 11 rfl (v := ?_) (by kernel_rfl) (fun _ _ _ h => h) rfl (fun W hW => ?_) hS ?_
                  rotate_left
                  · try dsimp only at hW
                    go_simp
                    try with_reducible rfl
                  simp only [Act.put, List.setIfInBounds_toArray, List.set_cons_zero, List.set_cons_succ]
                  refine ord_skip 12 rfl (by kernel_rfl) (fun _ _ _ h => h) rfl hS ?_
                  simp only [Act.put, List.setIfInBounds_toArray, List.set_cons_zero, List.set_cons_succ]
                  refine ord_skip 13 rfl (by kernel_rfl) (fun _ _ _ h => h) rfl hS ?_
                  simp only [Act.put, List.setIfInBounds_toArray, List.set_cons_zero, List.set_cons_succ]
                  refine ord_skip 14 rfl (by kernel_rfl) (fun _ _ _ h => h) rfl hS ?_
                  simp only [Act.put, List.setIfInBounds_toArray, List.set_cons_zero, List.set_cons_succ]
                  refine ord_skip 15 rfl (by kernel_rfl) (fun _ _ _ h => h) rfl hS ?_
                  simp only [Act.put, List.setIfInBounds_toArray, List.set_cons_zero, List.set_cons_succ]
                  refine ord_skip 16 rfl (by kernel_rfl) (fun _ _ _ h => h) rfl hS ?_
                  simp only [Act.put, List.setIfInBounds_toArray, List.set_cons_zero, List.set_cons_succ]
                  refine ord_skip 17 rfl (by kernel_rfl) (fun _ _ _ h => h) rfl hS ?_
                  simp only [Act.put, List.setIfInBounds_toArray, List.set_cons_zero, List.set_cons_succ]
                  refine ord_skip 18 rfl (by kernel_rfl) (fun _ _ _ h => h) rfl hS ?_
                  simp only [Act.put, List.setIfInBounds_toArray, List.set_cons_zero, List.set_cons_succ]
                  refine ord_skip 19 rfl (by kernel_rfl) (fun _ _ _ h => h) rfl hS ?_
                  simp only [Act.put, List.setIfInBounds_toArray, List.set_cons_zero, List.set_cons_succ]
                  refine ord_skip 20 rfl (by kernel_rfl) (fun _ _ _ h => h) rfl hS ?_
                  simp only [Act.put, List.setIfInBounds_toArray, List.set_cons_zero, List.set_cons_succ]
                  refine ord_skip 21 rfl (by kernel_rfl) (fun _ _ _ h => h) rfl hS ?_
                  simp only [Act.put, List.setIfInBounds_toArray, List.set_cons_zero, List.set_cons_succ]
                  refine ord_still 22 rfl (v := ?_) (by kernel_rfl) (fun _ _ _ h => h) rfl (fun W hW => ?_) hS ?_
                  rotate_left
                  · try dsimp only at hW
                    go_simp
                    try with_reducible rfl
                  simp only [Act.put, List.setIfInBounds_toArray, List.set_cons_zero, List.set_cons_succ]
                  refine ord_still 23 rfl (v := ?_) (by kernel_rfl) (fun _ _ _ h => h) rfl (fun W hW => ?_) hS ?_
                  rotate_left
                  · try dsimp only at hW
                    go_simp
                    try with_reducible rfl
                  simp only [Act.put, List.setIfInBounds_toArray, List.set_cons_zero, List.set_cons_succ]
                  refine ord_still 24 rfl (v := ?_) (by kernel_rfl) (fun _ _ _ h => h) rfl (fun W hW => ?_) hS ?_
                  rotate_left
                  · try dsimp only at hW
                    go_simp
                    try with_reducible rfl
                  simp only [Act.put, List.setIfInBounds_toArray, List.set_cons_zero, List.set_cons_succ]
                  refine ord_still 25 rfl (v := ?_) (by kernel_rfl) (fun _ _ _ h => h) rfl (fun W hW => ?_) hS ?_
                  rotate_left
                  · try dsimp only at hW
                    go_simp
                    try with_reducible rfl
                  simp only [Act.put, List.setIfInBounds_toArray, List.set_cons_zero, List.set_cons_succ]
                  refine ord_still 26 rfl (v := ?_) (by kernel_rfl) (fun _ _ _ h => h) rfl (fun W hW => ?_) hS ?_
                  rotate_left
                  · try dsimp only at hW
                    go_simp
                    try with_reducible rfl
                  simp only [Act.put, List.setIfInBounds_toArray, List.set_cons_zero, List.set_cons_succ]
                  refine ord_still 27 rfl (v := ?_) (by kernel_rfl) (fun _ _ _ h => h) rfl (fun W hW => ?_) hS ?_
                  rotate_left
                  · try dsimp only at hW
                    go_simp
                    try with_reducible rfl
                  simp only [Act.put, List.setIfInBounds_toArray, List.set_cons_zero, List.set_cons_succ]
                  refine ord_alone 28 rfl (by kernel_rfl) rfl (fun K hK => ?_)
                  go_simp
                  refine (cX.out _).mono ?_
                  rintro _ w7 ⟨rfl, hb⟩
                  have HSw7 := hid (show (w7.cell? ⟨bx, ox + i, none⟩ = some (.float .f64 x)) ∧ (w7.cell? ⟨bx, ox + k, none⟩ = some (.float .f64 y)) ∧ (w7.cell? ⟨g, i, none⟩ = some (.int .i64 aI)) ∧ (w7.cell? ⟨g, k, none⟩ = some (.int .i64 bI)) from ⟨bc hb hS.1, bc hb hS.2.1, bc hb hS.2.2.1, bc hb hS.2.2.2⟩)
                  have HBw7 := hid (HBw6.out.trans (hb.mono HBw6.out.size))
                  clear hb
                  clear hS
                  have hS : (w7.cell? ⟨bx, ox + i, none⟩ = some (.float .f64 x)) ∧ (w7.cell? ⟨bx, ox + k, none⟩ = some (.float .f64 y)) ∧ (w7.cell? ⟨g, i, none⟩ = some (.int .i64 aI)) ∧ (w7.cell? ⟨g, k, none⟩ = some (.int .i64 bI)) := HSw7.out
                  refine hK.out _ _ hS ?_
                  clear hK
                  refine ord_still 29 rfl (v := ?_) (by kernel_rfl) (fun _ _ _ h => h) rfl (fun W hW => ?_) hS ?_
                  rotate_left
                  · try dsimp only at hW
                    go_simp
                    try with_reducible rfl
                  simp only [Act.put, List.setIfInBounds_toArray, List.set_cons_zero, List.set_cons_succ]
                  refine ord_still 30 rfl (v := ?_) (by kernel_rfl) (fun _ _ _ h => h) rfl (fun W hW => ?_) hS ?_
                  rotate_left
                  · try dsimp only at hW
                    go_simp
                    try with_reducible rfl
                  simp only [Act.put, List.setIfInBounds_toArray, List.set_cons_zero, List.set_cons_succ]
                  refine ord_skip 31 rfl (by kernel_rfl) (fun _ _ _ h => h) rfl hS ?_
                  simp only [Act.put, List.setIfInBounds_toArray, List.set_cons_zero, List.set_cons_succ]
                  refine ord_skip 32 rfl (by kernel_rfl) (fun _ _ _ h => h) rfl hS ?_
                  simp only [Act.put, List.setIfInBounds_toArray, List.set_cons_zero, List.set_cons_succ]
                  refine ord_skip 33 rfl (by kernel_rfl) (fun _ _ _ h => h) rfl hS ?_
                  simp only [Act.put, List.setIfInBounds_toArray, List.set_cons_zero, List.set_cons_succ]
                  refine ord_skip 34 rfl (by kernel_rfl) (fun _ _ _ h => h) rfl hS ?_
                  simp only [Act.put, List.setIfInBounds_toArray, List.set_cons_zero, List.set_cons_succ]
                  refine ord_skip 35 rfl (by kernel_rfl) (fun _ _ _ h => h) rfl hS ?_
                  simp only [Act.put, List.setIfInBounds_toArray, List.set_cons_zero, List.set_cons_succ]
                  refine ord_skip 36 rfl (by kernel_rfl) (fun _ _ _ h => h) rfl hS ?_
                  simp only [Act.put, List.setIfInBounds_toArray, List.set_cons_zero, List.set_cons_succ]
                  refine ord_still 37 rfl (v := ?_) (by kernel_rfl) (fun _ _ _ h => h) rfl (fun W hW => ?_) hS ?_
                  rotate_left
                  · try dsimp only at hW
                    go_simp
                    try with_reducible rfl
                  simp only [Act.put, List.setIfInBounds_toArray, List.set_cons_zero, List.set_cons_succ]
                  refine ord_still 38 rfl (v := ?_) (by kernel_rfl) (fun _ _ _ h => h) rfl (fun W hW => ?_) hS ?_
                  rotate_left
                  · try dsimp only at hW
                    go_simp
                    try with_reducible rfl
                  simp only [Act.put, List.setIfInBounds_toArray, List.set_cons_zero, List.set_cons_succ]
                  refine ord_done (by kernel_rfl) ?_
                  clear hS
                  go_wp2_with fail
                  go_roundw
                  case rel => exact ⟨k + 1, HKN.out, by go_num, HBw7.out⟩
                  case measure => have := HKN.out; simp only [intOf]; omega
              · have c6 : ¬ (k : Int) < (n : Int) := by omega
                clear hB
                go_wp2_with fail
                go_roundw
                case rel => exact ⟨i + 1, HIN.out, by go_num, HBk.out⟩
                case measure => have := HIN.out; simp only [intOf]; omega
          · have a0 : ¬ (0 : Int) < (all : Int) := by omega
            have i1 : (i : Int) < (n : Int) := by omega
            go_wp2_with fail
            go_ret
            exact ⟨rfl, HBW.out.trans (HBo.out.mono HBW.out.size)⟩
        · have c5 : ¬ (i : Int) < (n : Int) := by omega
          go_wp2_with fail
          go_ret
          exact ⟨rfl, HBW.out.trans (HBo.out.mono HBW.out.size)⟩
theorem weighAll_walk (W : World) (total : Int) (wt : (Lit.int .i64 total).wf = true) (least : Int) (wl : (Lit.int .i64 least).wf = true) (v : Value) (l : List Nat) (R : Rd flEn 1 W v l) (okl : ∀ x ∈ l, (Lit.float .f64 x).wf = true) :
    Calls Try.prog 5 #[.int .i64 total, .int .i64 least, v] W fun e W' => e = .returned (.bool true) ∧ Below W.heap.size W W' := by
  by_cases h : ((l.length : Int) < 1 ∨ 100 < (l.length : Int) ∨ least < 1 ∨ 1000 < least ∨ total < least * (l.length : Int) ∨ 1073741824 < total)
  · obtain ⟨A, cap, rfl, _⟩ := R.form
    exact weighAll_out W A l.length cap total least l.length rfl h
  · obtain ⟨k, rfl⟩ := Int.eq_ofNat_of_zero_le (show 0 ≤ least by omega)
    have h0 : (0 : Int) ≤ (k : Int) * (l.length : Int) := Int.mul_nonneg (by omega) (by omega)
    obtain ⟨t, rfl⟩ := Int.eq_ofNat_of_zero_le (show 0 ≤ total by omega)
    have h5 : k * l.length ≤ t := by
      have : ¬ ((t : Nat) : Int) < ((k * l.length : Nat) : Int) := by rw [Int.natCast_mul]; omega
      omega
    exact weighAll_in W v l R t k (by omega) (by omega) (by omega) (by omega) h5 (by omega)

end Go.Proofs.Ytcnecjjgnnkjkaa
