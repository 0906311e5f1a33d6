/-
  Contracts of package addr's functions, and of the reference's for the same, over pairs of words. No condition but that the words are words.
-/
import Derived.Test.YtpjjijhojcfmnaaProg
import Derived.Test.YtpjjijhojcfmnaaLater
import Derived.Test.YtpjjijhojcfmnaaAddrM
import Derived.Test.YtpjjijhojcfmnaaShelf
import Derived.WalkKit
import Derived.RegionTactic
import Derived.ChangeAlike
import Derived.BigQuiet
import Derived.Deep.QuietTactic
import Derived.Deep.DeepCutAuto
import Derived.Deep.RegionHeld3
import Derived.StillTailTactics
namespace Go.Proofs.Ytpjjijhojcfmnaa
open Go.RowKit
set_option linter.unusedVariables false
set_option linter.unusedSimpArgs false
set_option maxRecDepth 100000

/-- An address as a value; a prefix as one. -/
def Ad.v (a : Ad) : Value := .agg #[.int .u64 (a.1 : Int), .int .u64 (a.2 : Int)]
def Pf.v (p : Pf) : Value := .agg #[.int .u64 (p.1.1 : Int), .int .u64 (p.1.2 : Int), .int .i64 p.2]

theorem word_bit (x k : Nat) (hx : x < 2 ^ 64) : wrap64 (bits .and .u64 ((x : Int) / 2 ^ k) 1) = ((x / 2 ^ k % 2 : Nat) : Int) := by
  have e1 : (x : Int) / 2 ^ k = ((x / 2 ^ k : Nat) : Int) := by simp
  have e2 := bits_low (x / 2 ^ k) 1 (Nat.lt_of_le_of_lt (Nat.div_le_self _ _) hx) (by decide)
  rw [e1, show (1 : Int) = ((2 ^ 1 - 1 : Nat) : Int) from rfl, e2]
  unfold wrap64; omega

theorem addr_bit (a : Ad) (ha : a.ok) (i : Int) (w : World) :
    Calls Try.prog 167 #[.agg #[.int .u64 (a.1 : Int), .int .u64 (a.2 : Int)], .int .i64 i] w fun e w' => e = .returned (.int .i64 (if 0 ≤ i then (a.bit i.toNat : Int) else 0)) ∧ Below w.heap.size w w' := by
  obtain ⟨hi, lo⟩ := a
  by_cases h0 : 0 ≤ i
  · obtain ⟨k, rfl⟩ := Int.eq_ofNat_of_zero_le h0
    by_cases h1 : k < 64
    · go_enter Try.func167, Try.ntmps167
      go_wp2
      go_ret
      refine ⟨ret_int ?_, (Below.refl _ _).alloc (Nat.le_refl _) _⟩
      rw [word_bit _ _ ha.1]; simp [Ad.bit, h1]
    · by_cases h2 : k < 128
      · go_enter Try.func167, Try.ntmps167
        go_wp2
        go_ret
        refine ⟨ret_int ?_, (Below.refl _ _).alloc (Nat.le_refl _) _⟩
        rw [word_bit _ _ ha.2]; simp [Ad.bit, h1, h2]
      · go_enter Try.func167, Try.ntmps167
        go_wp2
        go_ret
        exact ⟨ret_int (by simp [Ad.bit_out _ k (by omega)]), (Below.refl _ _).alloc (Nat.le_refl _) _⟩
  · go_enter Try.func167, Try.ntmps167
    go_wp2
    go_ret
    exact ⟨ret_int (by simp [h0]), (Below.refl _ _).alloc (Nat.le_refl _) _⟩

/-- How many bits a number asks for. -/
def capL (n : Int) : Nat := (min n 128).toNat
theorem cut_word (x m : Nat) (hx : x < 2 ^ 64) (hm : m ≤ 64) : bits .andNot .u64 (x : Int) ((18446744073709551615 : Int) / 2 ^ m) = ((cutW x m : Nat) : Int) := by
  rw [mask_shr m hm, bits_andNot, nandN_mask x (64 - m) hx (by omega)]; rfl

theorem addr_cut (a : Ad) (ha : a.ok) (n : Int) (w : World) :
    Calls Try.prog 109 #[.agg #[.int .u64 (a.1 : Int), .int .u64 (a.2 : Int)], .int .i64 n] w fun e w' => e = .returned (.agg #[.int .u64 ((a.cut (capL n)).1 : Int), .int .u64 ((a.cut (capL n)).2 : Int)]) ∧ Below w.heap.size w w' := by
  obtain ⟨hi, lo⟩ := a
  obtain ⟨m, hm⟩ : ∃ m : Int, m = if 128 < n then 128 else n := ⟨_, rfl⟩
  obtain ⟨k, hk⟩ : ∃ k : Nat, (k : Int) = if 0 < m then m else 0 := ⟨m.toNat, by split <;> omega⟩
  have hkc : k = capL n := by unfold capL; split at hm <;> split at hk <;> omega
  have hk128 : k ≤ 128 := by split at hm <;> split at hk <;> omega
  have e1 := min_at .i64 n 128 m hm
  have e2 := max_at .i64 0 m k hk
  have e3 := min_at .i64 k 64 ((min k 64 : Nat) : Int) (by split <;> omega)
  have e4 := max_at .i64 0 ((k : Int) - 64) ((k - 64 : Nat) : Int) (by split <;> omega)
  have HK := hid hkc
  clear hm hk hkc
  have hb1 : min k 64 ≤ 64 := Nat.min_le_right _ _
  have hb2 : k - 64 ≤ 64 := by omega
  generalize hM1 : min k 64 = m1 at e3 hb1
  generalize hM2 : k - 64 = m2 at e4 hb2
  have M1 := hid hM1
  have M2 := hid hM2
  clear hM1 hM2
  go_enter Try.func109, Try.ntmps109
  go_wp2
  go_region
  all_goals go_wp2
  all_goals go_region
  all_goals go_wp2
  all_goals
    refine bodyPost_ret (v := .agg #[.int .u64 (bits .andNot .u64 (hi : Int) ((18446744073709551615 : Int) / 2 ^ m1)), .int .u64 (bits .andNot .u64 (lo : Int) ((18446744073709551615 : Int) / 2 ^ m2))])
      (by simp [results, Try.results109, go_sem]) rfl ⟨?_, ?_⟩
    · rw [cut_word hi m1 ha.1 hb1, cut_word lo m2 ha.2 hb2, ← M1.out, ← M2.out, HK.out]; rfl
    · repeat (first | exact Below.refl _ _ | apply Below.drew | (refine Below.alloc ?_ (by simp) _))

theorem eq_ad (d : Nat) (w : World) (x0 y0 x1 y1 : Int) :
    (Op.equalIn (d + 2) 32 (.agg #[.int .u64 x0, .int .u64 x1]) (.agg #[.int .u64 y0, .int .u64 y1])).run Try.prog w = .ok (x0 == y0 && (x1 == y1)) w := by
  refine eqs_of Try.underlying32 (by kernel_rfl) ?_
  refine eqf2 (by rfl) (by go_simp; rfl) (by go_simp; rfl) (by go_simp) ?_
  exact eqf1 (by rfl) (by (go_simp; try rfl)) (by (go_simp; try rfl)) (by go_simp)
theorem eq_pf (d : Nat) (w : World) (x0 y0 x1 y1 x2 y2 : Int) :
    (Op.equalIn (d + 3) 34 (.agg #[.int .u64 x0, .int .u64 x1, .int .i64 x2]) (.agg #[.int .u64 y0, .int .u64 y1, .int .i64 y2])).run Try.prog w = .ok ((x0 == y0 && (x1 == y1)) && (x2 == y2)) w := by
  refine eqs_of Try.underlying34 (by kernel_rfl) ?_
  refine eqf2 (by rfl) (by (go_simp; try rfl)) (by (go_simp; try rfl)) (eq_ad _ _ _ _ _ _) ?_
  exact eqf1 (by rfl) (by (go_simp; try rfl)) (by (go_simp; try rfl)) (by go_simp)
attribute [local go_sem high] eq_ad eq_pf
theorem guard_ad : Try.prog.eqGuardType Try.prog.depth 32 = false := by kernel_rfl
theorem guard_pf : Try.prog.eqGuardType Try.prog.depth 34 = false := by kernel_rfl
theorem ret_bool {a b : Bool} (h : a = b) : Ending.returned (.bool a) = .returned (.bool b) := by rw [h]
theorem ad_beq (a b : Ad) : (((a.1 : Nat) : Int) == (b.1 : Int) && (((a.2 : Nat) : Int) == (b.2 : Int))) = decide (a = b) := by
  rw [Bool.eq_iff_iff]; simp [Prod.ext_iff]; omega

theorem addr_right (a : Ad) (ha : a.ok) (n : Int) (b : Bool) (hb : b = decide (Pf.right (a, n))) (w : World) :
    Calls Try.prog 170 #[.agg #[.int .u64 (a.1 : Int), .int .u64 (a.2 : Int), .int .i64 n]] w fun e w' => e = .returned (.bool b) ∧ Below w.heap.size w w' := by
  obtain ⟨hi, lo⟩ := a
  have hg := guard_ad
  have HB := hid hb
  clear hb
  by_cases h : 0 ≤ n ∧ n ≤ 128
  · obtain ⟨h0, h1⟩ := h
    go_enter Try.func170, Try.ntmps170
    go_wp2_with fail
    have hB0 : Below w.heap.size w (w.alloc (.cells #[.int .u64 (hi : Int), .int .u64 (lo : Int), .int .i64 n] 34)).drew := ((Below.refl _ _).alloc (Nat.le_refl _) _).drew
    have hL0 : w.heap.size < (w.alloc (.cells #[.int .u64 (hi : Int), .int .u64 (lo : Int), .int .i64 n] 34)).drew.heap.size := by simp
    go_region_held3 (fun w' => Below w.heap.size w w' ∧ w.heap.size < w'.heap.size ∧ w'.cell? ⟨w.heap.size, 0, none⟩ = some (.int .u64 (hi : Int)) ∧ w'.cell? ⟨w.heap.size, 1, none⟩ = some (.int .u64 (lo : Int)) ∧ w'.cell? ⟨w.heap.size, 2, none⟩ = some (.int .i64 n)) (go_keep)
      (first | (go_at_call 109; refine (addr_cut (hi, lo) ha n _).mono ?_; rintro e w' ⟨rfl, hb⟩; have hB1 := held_next hB0 hb; have hL1 := held_lt hL0 hb; obtain ⟨hc, hf⟩ := bcell hb))
    all_goals go_wp2
    all_goals
      go_ret
      refine ⟨ret_bool ?_, by assumption⟩
      rw [ad_beq (Ad.cut (hi, lo) (capL n)) (hi, lo), HB.out]
      have hc : capL n = n.toNat := by unfold capL; omega
      rw [hc]
      simp [Pf.right, h0, h1]
  · have hno : ¬ Pf.right ((hi, lo), n) := fun k => h ⟨k.1, k.2.1⟩
    have HN := hid hno
    clear hno
    by_cases h0 : 0 ≤ n
    · have h1 : decide (n ≤ 128) = false := decide_eq_false (fun k => h ⟨h0, k⟩)
      have h0' : decide (0 ≤ n) = true := decide_eq_true h0
      clear h h0
      go_enter Try.func170, Try.ntmps170
      go_wp2_with fail
      go_quiet (fail)
      go_wp2
      go_ret
      refine ⟨ret_bool (by rw [HB.out]; simp [HN.out]), (((Below.refl _ _).alloc (Nat.le_refl _) _)).drewN _⟩
    · have h1 : decide (0 ≤ n) = false := decide_eq_false h0
      clear h h0
      go_enter Try.func170, Try.ntmps170
      go_wp2_with fail
      go_quiet (fail)
      go_wp2
      go_ret
      refine ⟨ret_bool (by rw [HB.out]; simp [HN.out]), (((Below.refl _ _).alloc (Nat.le_refl _) _)).drewN _⟩

/-- What a comparison tells: -1, 0, 1. -/
def cmpI (x y : Int) : Int := if x < y then -1 else if y < x then 1 else 0

theorem nan_u64 (x : Int) (w : World) : Calls Try.prog 179 #[.int .u64 x] w fun e w' => e = .returned (.bool false) ∧ w = w' := by
  go_enter Try.func179, Try.ntmps179
  go_wp2
  go_ret
  exact ⟨by simp, rfl⟩
theorem nan_int (x : Int) (w : World) : Calls Try.prog 180 #[.int .i64 x] w fun e w' => e = .returned (.bool false) ∧ w = w' := by
  go_enter Try.func180, Try.ntmps180
  go_wp2
  go_ret
  exact ⟨by simp, rfl⟩
theorem cmp_u64 (x y : Int) (w : World) : Calls Try.prog 146 #[.int .u64 x, .int .u64 y] w fun e w' => e = .returned (.int .i64 (cmpI x y)) ∧ w = w' := by
  by_cases h1 : x < y
  · go_enter Try.func146, Try.ntmps146
    go_wp2_with (go_at_call 179; refine (nan_u64 _ _).mono ?_; rintro e w' ⟨rfl, rfl⟩)
    go_ret
    exact ⟨ret_int (by simp [cmpI, h1]), rfl⟩
  · by_cases h2 : y < x
    · go_enter Try.func146, Try.ntmps146
      go_wp2_with (go_at_call 179; refine (nan_u64 _ _).mono ?_; rintro e w' ⟨rfl, rfl⟩)
      go_ret
      exact ⟨ret_int (by unfold cmpI; rw [if_neg (by omega), if_pos h2]), rfl⟩
    · go_enter Try.func146, Try.ntmps146
      go_wp2_with (go_at_call 179; refine (nan_u64 _ _).mono ?_; rintro e w' ⟨rfl, rfl⟩)
      go_ret
      exact ⟨ret_int (by unfold cmpI; rw [if_neg (by omega), if_neg (by omega)]), rfl⟩
theorem cmp_int (x y : Int) (w : World) : Calls Try.prog 147 #[.int .i64 x, .int .i64 y] w fun e w' => e = .returned (.int .i64 (cmpI x y)) ∧ w = w' := by
  by_cases h1 : x < y
  · go_enter Try.func147, Try.ntmps147
    go_wp2_with (go_at_call 180; refine (nan_int _ _).mono ?_; rintro e w' ⟨rfl, rfl⟩)
    go_ret
    exact ⟨ret_int (by simp [cmpI, h1]), rfl⟩
  · by_cases h2 : y < x
    · go_enter Try.func147, Try.ntmps147
      go_wp2_with (go_at_call 180; refine (nan_int _ _).mono ?_; rintro e w' ⟨rfl, rfl⟩)
      go_ret
      exact ⟨ret_int (by unfold cmpI; rw [if_neg (by omega), if_pos h2]), rfl⟩
    · go_enter Try.func147, Try.ntmps147
      go_wp2_with (go_at_call 180; refine (nan_int _ _).mono ?_; rintro e w' ⟨rfl, rfl⟩)
      go_ret
      exact ⟨ret_int (by unfold cmpI; rw [if_neg (by omega), if_neg (by omega)]), rfl⟩

/-- The first of three that is not 0. -/
def or3 (a b c : Int) : Int := if a ≠ 0 then a else if b ≠ 0 then b else c
def Or3Rel (a b c : Int) (i : Value) : Prop := i = .int .i64 0 ∨ (i = .int .i64 1 ∧ a = 0) ∨ (i = .int .i64 2 ∧ a = 0 ∧ b = 0) ∨ (i = .int .i64 3 ∧ a = 0 ∧ b = 0 ∧ c = 0)
theorem cmp_or (g : Nat) (a b c : Int) (w : World) (h0 : w.cell? ⟨g, 0, none⟩ = some (.int .i64 a)) (h1 : w.cell? ⟨g, 1, none⟩ = some (.int .i64 b)) (h2 : w.cell? ⟨g, 2, none⟩ = some (.int .i64 c)) :
    Calls Try.prog 145 #[.slice (some ⟨g, 0, none⟩) 3 3] w fun e w' => e = .returned (.int .i64 (or3 a b c)) ∧ w = w' := by
  obtain ⟨r, hr⟩ : ∃ r, r = or3 a b c := ⟨_, rfl⟩
  rw [← hr]
  have HR := hid hr
  clear hr
  go_enter Try.func145, Try.ntmps145
  go_wp2_with fail
  go_loop [8] (fun i => Or3Rel a b c i) (fun i => (3 - intOf i).toNat)
  case atStart => exact .inl rfl
  case round =>
    rcases hrel with rfl | ⟨rfl, ha⟩ | ⟨rfl, ha, hb⟩ | ⟨rfl, ha, hb, hc⟩
    · by_cases e : a = 0
      · have e1 : (a != 0) = false := by simp [e]
        have E := hid e
        clear e
        go_wp2
        go_round
        case rel => exact .inr (.inl ⟨rfl, E.out⟩)
        case measure => simp [intOf]
      · have e1 : (a != 0) = true := by simp [e]
        have E := hid e
        clear e
        go_wp2
        go_ret
        exact ⟨ret_int (by rw [HR.out]; unfold or3; rw [if_pos E.out]), rfl⟩
    · have HA := hid ha
      clear ha
      by_cases e : b = 0
      · have e1 : (b != 0) = false := by simp [e]
        have E := hid e
        clear e
        go_wp2
        go_round
        case rel => exact .inr (.inr (.inl ⟨rfl, HA.out, E.out⟩))
        case measure => simp [intOf]
      · have e1 : (b != 0) = true := by simp [e]
        have E := hid e
        clear e
        go_wp2
        go_ret
        exact ⟨ret_int (by rw [HR.out]; unfold or3; rw [if_neg (by simpa using HA.out), if_pos E.out]), rfl⟩
    · have HA := hid ha
      have HB := hid hb
      clear ha hb
      by_cases e : c = 0
      · have e1 : (c != 0) = false := by simp [e]
        have E := hid e
        clear e
        go_wp2
        go_round
        case rel => exact .inr (.inr (.inr ⟨rfl, HA.out, HB.out, E.out⟩))
        case measure => simp [intOf]
      · have e1 : (c != 0) = true := by simp [e]
        have E := hid e
        clear e
        go_wp2
        go_ret
        exact ⟨ret_int (by rw [HR.out]; unfold or3; rw [if_neg (by simpa using HA.out), if_neg (by simpa using HB.out)]), rfl⟩
    · have HA := hid ha
      have HB := hid hb
      have HC := hid hc
      clear ha hb hc
      go_wp2
      go_ret
      exact ⟨ret_int (by rw [HR.out]; unfold or3; rw [if_neg (by simpa using HA.out), if_neg (by simpa using HB.out), HC.out]), rfl⟩

/-- Which of two prefixes is ahead: by the address, then by the length. -/
def Pf.cmp (p q : Pf) : Int := or3 (cmpI p.1.1 q.1.1) (cmpI p.1.2 q.1.2) (cmpI p.2 q.2)
theorem addr_compare (p q : Pf) (w : World) :
    Calls Try.prog 119 #[.agg #[.int .u64 (p.1.1 : Int), .int .u64 (p.1.2 : Int), .int .i64 p.2], .agg #[.int .u64 (q.1.1 : Int), .int .u64 (q.1.2 : Int), .int .i64 q.2]] w fun e w' => e = .returned (.int .i64 (p.cmp q)) ∧ Below w.heap.size w w' := by
  obtain ⟨⟨a, b⟩, n⟩ := p
  obtain ⟨⟨c, d⟩, m⟩ := q
  go_enter Try.func119, Try.ntmps119
  go_wp2_with fail
  refine wp_region_tail 19 (by kernel_rfl) (by kernel_rfl) ?_
  simp only [List.take_succ_cons, List.take_zero, List.drop_succ_cons, List.drop_zero]
  repeat (first
    | still_step
    | still_call (still_of (cmp_u64 _ _ _))
    | still_call (still_of (cmp_int _ _ _)))
  refine wpStill_nil ?_
  go_wp2_with fail
  refine (cmp_or _ (cmpI a c) (cmpI b d) (cmpI n m) _ ?_ ?_ ?_).mono ?_
  · exact new_cell _ _ _ _ (by simp) _ _ rfl
  · exact new_cell _ _ _ _ (by simp) _ _ rfl
  · exact new_cell _ _ _ _ (by simp) _ _ rfl
  rintro e w1 ⟨rfl, rfl⟩
  go_wp2
  go_ret
  refine ⟨rfl, ?_⟩
  repeat (first | exact Below.refl _ _ | apply Below.drew | (refine Below.alloc ?_ (by simp; omega) _) | (refine Below.alloc ?_ (by simp) _))

theorem addr_less (p q : Pf) (b : Bool) (hb : b = decide (p.cmp q < 0)) (w : World) :
    Calls Try.prog 123 #[.agg #[.int .u64 (p.1.1 : Int), .int .u64 (p.1.2 : Int), .int .i64 p.2], .agg #[.int .u64 (q.1.1 : Int), .int .u64 (q.1.2 : Int), .int .i64 q.2]] w fun e w' => e = .returned (.bool b) ∧ Below w.heap.size w w' := by
  subst hb
  have h := fun w => addr_compare p q w
  obtain ⟨⟨a, b⟩, n⟩ := p
  obtain ⟨⟨c, d⟩, m⟩ := q
  have H := hid h
  clear h
  go_enter Try.func123, Try.ntmps123
  go_wp2_with fail
  refine (H.out _).mono ?_
  rintro e w1 ⟨rfl, hb⟩
  go_wp2
  go_ret
  refine ⟨rfl, Below.trans (b := _) ?_ (hb.mono ?_)⟩
  · exact ((Below.refl _ _).alloc (Nat.le_refl _) _).alloc (by simp) _
  · simp; omega

theorem addr_bitN (a : Ad) (ha : a.ok) (k : Nat) (r : Int) (hr : (a.bit k : Int) = r) (w : World) :
    Calls Try.prog 167 #[.agg #[.int .u64 (a.1 : Int), .int .u64 (a.2 : Int)], .int .i64 k] w fun e w' => e = .returned (.int .i64 r) ∧ Below w.heap.size w w' := by
  have := addr_bit a ha (k : Int) w
  rw [if_pos (by omega), Int.toNat_natCast, hr] at this; exact this
theorem addr_cutN (a : Ad) (ha : a.ok) (k : Nat) (hk : k ≤ 128) (r : Ad) (hr : a.cut k = r) (w : World) :
    Calls Try.prog 109 #[.agg #[.int .u64 (a.1 : Int), .int .u64 (a.2 : Int)], .int .i64 k] w fun e w' => e = .returned (.agg #[.int .u64 (r.1 : Int), .int .u64 (r.2 : Int)]) ∧ Below w.heap.size w w' := by
  have := addr_cut a ha (k : Int) w
  rw [show capL (k : Int) = k from by unfold capL; omega, hr] at this; exact this
end Go.Proofs.Ytpjjijhojcfmnaa
