/-
  The walk of the law SpreadHalves: for all inputs it returns true and leaves memory alone. No condition.
-/
import Derived.Test.YtjhgmjfjlndomaaSpreadTells
namespace Go.Proofs.Ytjhgmjfjlndomaa
open Go.RowKit
set_option linter.unusedVariables false
set_option linter.unusedSimpArgs false
set_option maxRecDepth 100000

theorem cells_pf (p : Pf) : ∀ u ∈ pfEn p, u.oneCell' = true := by intro u hu; simp [pfEn] at hu; rcases hu with rfl | rfl | rfl <;> rfl
theorem keysP_in {q : Ad} {m n : Nat} {i j : Int} (hi : i = m) (hj : j = n) (hq : q.ok) (hr : q.num % 2 ^ (128 - m) = 0) (hm : m ≤ n) (hn : n ≤ 128) (h8 : n - m ≤ 8) : keysP (q, i) j = keysOf q m n := by
  subst hi hj
  unfold keysP
  rw [if_pos ⟨⟨by simp, by show (m : Int) ≤ 128; omega, (Ad.cut_self hq _).2 (by simpa using hr)⟩, by show (m : Int) ≤ n; omega, by omega, by show (n : Int) - m ≤ 8; omega⟩]; simp
theorem cut_mod {a : Ad} (ha : a.ok) (n : Nat) (hn : n ≤ 128) : (a.cut n).num % 2 ^ (128 - n) = 0 :=
  (Ad.cut_self (Ad.cut_ok ha n) n).1 (by rw [Ad.cut_cut ha n n hn hn, Nat.min_self])
theorem mod_less {x m n : Nat} (h : x % 2 ^ (128 - m) = 0) (hm : m ≤ n) (hn : n ≤ 128) : x % 2 ^ (128 - n) = 0 := by
  rw [sub_pow (128 - m) (128 - n) (by omega), Nat.mul_comm] at h
  have := Nat.mod_mul_right_mod x (2 ^ (128 - n)) (2 ^ (128 - m - (128 - n)))
  rw [h] at this
  rw [← this, Nat.zero_mod]
theorem with_mod {a : Ad} (ha : a.ok) {n : Nat} (hn : n < 128) (h : a.num % 2 ^ (128 - n) = 0) : (a.with n).num % 2 ^ (128 - (n + 1)) = 0 := by
  rw [Ad.with_num ha n hn h, Ad.of_num, show 127 - n = 128 - (n + 1) from by omega, Nat.add_mod_right]
  exact mod_less h (by omega) (by omega)

theorem spreadHalves_out (W : World) (a : Ad) (n more : Int) (wn : (Lit.int .i64 n).wf = true) (wm : (Lit.int .i64 more).wf = true) (h : ¬ (0 ≤ n ∧ 1 ≤ more ∧ more ≤ 8 ∧ n ≤ 128 - more)) :
    Calls Try.prog 5 #[.agg #[.int .u64 (a.1 : Int), .int .u64 (a.2 : Int)], .int .i64 n, .int .i64 more] W fun e W' => e = .returned (.bool true) ∧ Below W.heap.size W W' := by
  have b1 := wf_i64 wn
  have b2 := wf_i64 wm
  clear wn wm
  obtain ⟨x, y⟩ := a
  go_enter Try.func5, Try.ntmps5
  go_wp2_with fail
  refine (spread_alive _).mono ?_
  rintro e w1 ⟨rfl, hb⟩
  have hb' := hid (Below.trans (b := _) ((Below.refl W.heap.size W).alloc (Nat.le_refl _) _) (hb.mono (by simp)))
  clear hb
  go_wp2_with fail
  all_goals (go_ret; exact ⟨rfl, hb'.out⟩)

theorem spreadHalves_in (W : World) (a : Ad) (ha : a.ok) (n more : Nat) (h1 : 1 ≤ more) (h8 : more ≤ 8) (hn : n + more ≤ 128) :
    Calls Try.prog 5 #[.agg #[.int .u64 (a.1 : Int), .int .u64 (a.2 : Int)], .int .i64 (n : Int), .int .i64 (more : Int)] W fun e W' => e = .returned (.bool true) ∧ Below W.heap.size W W' := by
  obtain ⟨q, hq⟩ : ∃ q, q = a.cut n := ⟨_, rfl⟩
  have hqo : q.ok := hq ▸ Ad.cut_ok ha n
  have hqm : q.num % 2 ^ (128 - n) = 0 := hq ▸ cut_mod ha n (by omega)
  have c1 := hid fun w => ref_cutN a ha n (by omega) q hq.symm w
  have c3 := hid fun w => ref_with q hqo n (by omega) w
  have hwo := Ad.with_ok hqo n
  have hwm := with_mod hqo (show n < 128 by omega) hqm
  have hh := keys_halves hqo hqm (show n < n + more by omega) hn
  have k1 := keysP_in (q := q) (m := n + 1) (n := n + more) (i := (n : Int) + 1) (j := (n : Int) + (more : Int)) (by omega) (by omega) hqo (mod_less hqm (by omega) (by omega)) (by omega) hn (by omega)
  have k2 := keysP_in (q := q.with n) (m := n + 1) (n := n + more) (i := (n : Int) + 1) (j := (n : Int) + (more : Int)) (by omega) (by omega) hwo hwm (by omega) hn (by omega)
  have k3 := keysP_in (q := q) (m := n) (n := n + more) (i := (n : Int)) (j := (n : Int) + (more : Int)) rfl (by omega) hqo hqm (by omega) hn (by omega)
  have c2 := hid fun w => spread_keys (q, (n : Int) + 1) hqo ((n : Int) + (more : Int)) w
  have c4 := hid fun w => spread_keys (q.with n, (n : Int) + 1) hwo ((n : Int) + (more : Int)) w
  have c5 := hid fun w => spread_keys (q, (n : Int)) hqo ((n : Int) + (more : Int)) w
  have c6 := hid fun w => spread_count (q, (n : Int)) hqo ((n : Int) + (more : Int)) w
  rw [k1] at c2
  rw [k2] at c4
  rw [k3, hh] at c5
  rw [k3, hh] at c6
  have L1 := hid (keysOf_length q (n + 1) (n + more))
  have L2 := hid (keysOf_length (q.with n) (n + 1) (n + more))
  have hp : 2 ^ (n + more - (n + 1)) ≤ 128 := by
    calc 2 ^ (n + more - (n + 1)) ≤ 2 ^ 7 := Nat.pow_le_pow_right (by decide) (by omega)
      _ = 128 := rfl
  generalize 2 ^ (n + more - (n + 1)) = N at L1 L2 hp
  generalize keysOf q (n + 1) (n + more) = l1 at c2 c5 c6 L1
  generalize keysOf (q.with n) (n + 1) (n + more) = l2 at c4 c5 c6 L2
  generalize q.with n = r at c3 c4
  clear k1 k2 k3 hh hwm hwo hqm hqo hq ha
  obtain ⟨x, y⟩ := a
  obtain ⟨qx, qy⟩ := q
  obtain ⟨rx, ry⟩ := r
  go_enter Try.func5, Try.ntmps5
  go_wp2_with fail
  refine (spread_alive _).mono ?_
  rintro e w1 ⟨rfl, hb1⟩
  have BA := (Blk.new_at W #[.int .u64 (x : Int), .int .u64 (y : Int)] 24 W.heap.size rfl).below' hb1
  have HB1 := hid (Below.trans (b := _) ((Below.refl W.heap.size W).alloc (Nat.le_refl _) _) (hb1.mono (by simp)))
  have s0 := BA.cellv (i := 0) rfl
  have s1 := BA.cellv (i := 1) rfl
  clear hb1 BA
  go_wp2_with fail
  refine (c1.out _).mono ?_
  rintro e w2 ⟨rfl, hb2⟩
  have HB2 := hid (held_next HB1.out hb2)
  have hs2 := HB2.out.size
  clear hb2 HB1 s0 s1
  have BP := hid (Blk.new_at w2 #[.int .u64 (qx : Int), .int .u64 (qy : Int), .int .i64 (n : Int)] 26 w2.heap.size rfl)
  have HB2' := hid (HB2.out.alloc hs2 (.cells #[.int .u64 (qx : Int), .int .u64 (qy : Int), .int .i64 (n : Int)] 26))
  clear HB2
  go_wp2_with fail
  refine (c2.out _).mono ?_
  rintro e w3 ⟨v1, rfl, hO1, hb3⟩
  have BP3 := hid (BP.out.below' hb3)
  have HB3 := hid (held_next HB2'.out hb3)
  have HR1 := hid hO1.rd
  clear hb3 BP HB2' hO1
  have s0 := BP3.out.cellv (i := 0) rfl
  have s1 := BP3.out.cellv (i := 1) rfl
  have s2 := BP3.out.cellv (i := 2) rfl
  go_wp2_with fail
  refine (c3.out _).mono ?_
  rintro e w4 ⟨rfl, hb4⟩
  have BP4 := hid (BP3.out.below' hb4)
  have HB4 := hid (held_next HB3.out hb4)
  have HR1' := hid (HR1.out.below pfEn_len hb4)
  clear hb4 BP3 HB3 HR1 s0 s1 s2
  go_wp2_with fail
  refine (c4.out _).mono ?_
  rintro e w5 ⟨v2, rfl, hO2, hb5⟩
  have BP5 := hid (BP4.out.below' hb5)
  have HB5 := hid (held_next HB4.out hb5)
  have HR1 := hid (HR1'.out.below pfEn_len hb5)
  have HR2 := hid hO2.rd
  clear hb5 BP4 HB4 HR1' hO2
  have s0 := BP5.out.cellv (i := 0) rfl
  have s1 := BP5.out.cellv (i := 1) rfl
  have s2 := BP5.out.cellv (i := 2) rfl
  go_wp2_with fail
  refine (c5.out _).mono ?_
  rintro e w6 ⟨v3, rfl, hO3, hb6⟩
  have BP6 := hid (BP5.out.below' hb6)
  have HB6 := hid (held_next HB5.out hb6)
  have HR1' := hid (HR1.out.below pfEn_len hb6)
  have HR2' := hid (HR2.out.below pfEn_len hb6)
  have HR3 := hid hO3.rd
  have HV3 := hid (fun g (h : v3.ownBlock = some g) => (Owns.base_le hO3 g h).2)
  have hlt6 : w2.heap.size < w6.heap.size := BP6.out.lt
  have hs6 := HB6.out.size
  clear hb6 BP5 HB5 HR1 HR2 hO3 s0 s1 s2
  have hl1 : l1.length ≤ 128 := by have := L1.out; omega
  have hl2 : l2.length ≤ 128 := by have := L2.out; omega
  obtain ⟨A1, cap1, rfl, _, _⟩ := HR1'.out.form
  obtain ⟨A2, cap2, rfl, _, _⟩ := HR2'.out.form
  rw [L1.out, L2.out]
  have hL1 := hid L1.out
  have hL2 := hid L2.out
  clear L1 L2
  go_wp2_with (at_builtin; refine wpList_append_rd rfl (.const (.slice none 0 0)) _ 28 rfl 26 _ 3 24 Try.underlying28 pf_row rfl (by decide) w6.heap.size _ 0 [] rfl (Owns.nil _ _ _ _) _ rfl l1 (by have h := HR1'.out; rwa [hL1.out] at h) pfEn_len cells_pf ?c1 ?c2 ?c3 ?_)
  case c1 => unfold maxLen; omega
  case c2 => omega
  case c3 => omega
  intro v4 w7 hO7 hC7
  have hB7 : Below w6.heap.size w6 w7 := hC7.below (Nat.le_refl _) (fun g _ h => by cases h)
  have BP7 := hid (BP6.out.below' hB7)
  have HB7 := hid (held_next HB6.out hB7)
  have HR2 := hid (HR2'.out.below pfEn_len hB7)
  have HR3' := hid (HR3.out.below pfEn_len hB7)
  have HO7 := hid hO7
  have hs7 := hB7.size
  clear hC7 hB7 hO7 HR1' HR2' HR3 BP6 HB6
  go_wp2_with (at_builtin; refine wpList_append_rd rfl (.tmp 64) _ 28 rfl 26 _ 3 24 Try.underlying28 pf_row rfl (by decide) w6.heap.size _ l1.length _ rfl HO7.out _ rfl l2 (by have h := HR2.out; rwa [hL2.out] at h) pfEn_len cells_pf ?d1 ?d2 ?d3 ?_)
  case d1 => unfold maxLen; omega
  case d2 => omega
  case d3 => omega
  intro v5 w8 hO8 hC8
  have hne : ∀ g, g < w6.heap.size → ¬ v4.ownBlock = some g := fun g hg h => by have := (HO7.out.base_le g h).1; omega
  have BP8 := hid (BP7.out.chg hC8 (hne _ hlt6))
  have hB8 : Below w6.heap.size w7 w8 := hC8.below hs7 (fun g hg => hne g hg)
  have HB8 := hid (HB7.out.trans (hB8.mono hs6))
  have HR3 := hid (HR3'.out.chg pfEn_len hC8 (fun g h => hne g (HV3.out g h)))
  have HR8 := hid (Rd.of_owns (en := pfEn) (l := l1 ++ l2) (by rw [List.length_append, List.flatMap_append]; exact hO8) pfEn_len)
  have hs8 := hB8.size
  clear hne hC8 hB8 hO8 HO7 BP7 HB7 HR3' HR2
  go_wp2_with fail
  refine (ref_samePfs _ v3 v5 (l1 ++ l2) (l1 ++ l2) HR3.out HR8.out true (by simp)).mono ?_
  rintro _ w9 ⟨rfl, hb9⟩
  have BP9 := hid (BP8.out.below' hb9)
  have HB9 := hid (held_next HB8.out hb9)
  clear hb9 BP8 HB8 HR3 HR8
  have s0 := BP9.out.cellv (i := 0) rfl
  have s1 := BP9.out.cellv (i := 1) rfl
  have s2 := BP9.out.cellv (i := 2) rfl
  have hnn : ((N : Int) == (N : Int)) = true := by simp
  go_wp2_with fail
  refine (c6.out _).mono ?_
  rintro _ w10 ⟨rfl, hb10⟩
  have HB10 := hid (held_next HB9.out hb10)
  clear hb10 s0 s1 s2
  rw [List.length_append, hL1.out, hL2.out]
  go_wp2_with fail
  go_ret
  refine ⟨?_, HB10.out⟩
  first
    | rfl
    | (refine ret_bool ?_; simp; omega)

theorem spreadHalves_walk (W : World) (a : Ad) (ha : a.ok) (n : Int) (wn : (Lit.int .i64 n).wf = true) (more : Int) (wm : (Lit.int .i64 more).wf = true) :
    Calls Try.prog 5 #[.agg #[.int .u64 (a.1 : Int), .int .u64 (a.2 : Int)], .int .i64 n, .int .i64 more] W fun e W' => e = .returned (.bool true) ∧ Below W.heap.size W W' := by
  by_cases h : 0 ≤ n ∧ 1 ≤ more ∧ more ≤ 8 ∧ n ≤ 128 - more
  · obtain ⟨h1, h2, h3, h4⟩ := h
    obtain ⟨n, rfl⟩ := Int.eq_ofNat_of_zero_le h1
    obtain ⟨more, rfl⟩ := Int.eq_ofNat_of_zero_le (show 0 ≤ more by omega)
    exact spreadHalves_in W a ha n more (by omega) (by omega) (by omega)
  · exact spreadHalves_out W a n more wn wm h

end Go.Proofs.Ytjhgmjfjlndomaa
