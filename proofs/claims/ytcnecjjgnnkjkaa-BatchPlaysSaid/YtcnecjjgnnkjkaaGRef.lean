/-
  The walk of the law AddrCommon, and of the example of package addr: for all addresses it returns true and leaves memory alone. No condition.
  The walk of the law AddrOrder: for all prefixes it returns true and leaves memory alone. No condition.
  Contracts of the reference's functions for chapter 1: bits of addresses, prefixes. No condition but that the words are words.
  Routes as plain data; the reference's comparing of two lists. No condition.
  Contracts of the reference's functions on lists of routes: Find, Without, Longest. No condition but that words are words.
  Contracts of the reference's Into and Sorted on lists of routes. No condition but that words are words.
-/
import Derived.Test.YtcnecjjgnnkjkaaGBase
import Derived.Deep.RegionHeld3
namespace Go.Proofs.Ytcnecjjgnnkjkaa
open Go.RowKit
set_option linter.unusedVariables false
set_option linter.unusedSimpArgs false
set_option maxRecDepth 100000
attribute [local go_sem high] eq_ad eq_pf

theorem com_self (a : Ad) : a.com a = 128 := Ad.com_eq ⟨Nat.le_refl _, fun _ _ => rfl, fun h => by omega⟩

end Go.Proofs.Ytcnecjjgnnkjkaa

namespace Go.Proofs.Ytcnecjjgnnkjkaa
open Go.RowKit
set_option linter.unusedVariables false
set_option linter.unusedSimpArgs false
set_option maxRecDepth 100000
attribute [local go_sem high] eq_ad eq_pf

/-- One prefix is ahead of another one. -/
def Pf.lt (p q : Pf) : Prop := p.1.1 < q.1.1 ∨ p.1.1 = q.1.1 ∧ (p.1.2 < q.1.2 ∨ p.1.2 = q.1.2 ∧ p.2 < q.2)
instance (p q : Pf) : Decidable (p.lt q) := by unfold Pf.lt; infer_instance
theorem cmp_lt (p q : Pf) : p.cmp q < 0 ↔ p.lt q := by
  unfold Pf.cmp or3 cmpI Pf.lt
  split
  · split <;> (try split) <;> omega
  · split
    · split <;> (try split) <;> omega
    · split <;> (try split) <;> omega
theorem pf_lt_irrefl (p : Pf) : ¬ p.lt p := by unfold Pf.lt; omega
theorem pf_lt_trans {p q r : Pf} (h : p.lt q) (k : q.lt r) : p.lt r := by unfold Pf.lt at *; omega
theorem pf_lt_total {p q : Pf} (h : p ≠ q) : p.lt q ∨ q.lt p := by
  have : p.1.1 ≠ q.1.1 ∨ p.1.2 ≠ q.1.2 ∨ p.2 ≠ q.2 := by
    rcases Nat.lt_trichotomy p.1.1 q.1.1 with h1 | h1 | h1
    · omega
    · rcases Nat.lt_trichotomy p.1.2 q.1.2 with h2 | h2 | h2
      · omega
      · right; right; intro h3; exact h (Prod.ext (Prod.ext h1 h2) h3)
      · omega
    · omega
  unfold Pf.lt; omega
theorem pf_lt_asymm {p q : Pf} (h : p.lt q) : ¬ q.lt p := by unfold Pf.lt at *; omega
/-- A prefix is ahead of the longer ones that it has. -/
theorem pf_has_lt {p q : Pf} (h : p.has q.1) (hl : p.2 < q.2) : p.lt q := by
  obtain ⟨_, h2⟩ := h
  have e1 : p.1.1 = cutW q.1.1 (min p.2.toNat 64) := by rw [← h2]; rfl
  have e2 : p.1.2 = cutW q.1.2 (p.2.toNat - 64) := by rw [← h2]; rfl
  have l1 := cutW_le q.1.1 (min p.2.toNat 64)
  have l2 := cutW_le q.1.2 (p.2.toNat - 64)
  unfold Pf.lt; omega
theorem pf_beq (p q : Pf) : ((((p.1.1 : Nat) : Int) == (q.1.1 : Int) && (((p.1.2 : Nat) : Int) == (q.1.2 : Int))) && (p.2 == q.2)) = decide (p = q) := by
  rw [Bool.eq_iff_iff]; simp [Prod.ext_iff]; omega


end Go.Proofs.Ytcnecjjgnnkjkaa

namespace Go.Proofs.Ytcnecjjgnnkjkaa
open Go.RowKit
set_option linter.unusedVariables false
set_option linter.unusedSimpArgs false
set_option maxRecDepth 100000
attribute [local go_sem high] eq_ad eq_pf

/-- An address with one bit on. -/
def Ad.with (a : Ad) (i : Nat) : Ad := if i < 64 then (a.1 ||| 2 ^ (63 - i), a.2) else (a.1, a.2 ||| 2 ^ (127 - i))
theorem Ad.with_ok {a : Ad} (h : a.ok) (i : Nat) : (a.with i).ok := by
  unfold Ad.with; split
  · exact ⟨Nat.or_lt_two_pow h.1 (Nat.pow_lt_pow_right (by decide) (by omega)), h.2⟩
  · exact ⟨h.1, Nat.or_lt_two_pow h.2 (Nat.pow_lt_pow_right (by decide) (by omega))⟩
theorem word_or (x k j : Nat) : (x ||| 2 ^ k) / 2 ^ j % 2 = if j = k then 1 else x / 2 ^ j % 2 := by
  have e : ∀ y, y / 2 ^ j % 2 = (y.testBit j).toNat := fun y => by
    rw [Nat.testBit_eq_decide_div_mod_eq]; rcases Nat.mod_two_eq_zero_or_one (y / 2 ^ j) with h | h <;> simp [h]
  rw [e, e, Nat.testBit_or, Nat.testBit_two_pow]
  by_cases h : j = k
  · subst h; simp
  · rw [if_neg h]; have : ¬ k = j := fun e => h e.symm
    simp [this]
theorem Ad.bit_with (a : Ad) (i j : Nat) (hi : i < 128) (hj : j < 128) : (a.with i).bit j = if j = i then 1 else a.bit j := by
  unfold Ad.with
  by_cases h1 : i < 64
  · rw [if_pos h1]; unfold Ad.bit
    by_cases h2 : j < 64
    · simp only [if_pos h2]; rw [word_or]
      by_cases h : j = i
      · rw [if_pos h, if_pos (by omega)]
      · rw [if_neg h, if_neg (by omega)]
    · have hne : ¬ j = i := by omega
      simp only [if_neg h2, if_pos hj, if_neg hne]
  · rw [if_neg h1]; unfold Ad.bit
    by_cases h2 : j < 64
    · have hne : ¬ j = i := by omega
      simp only [if_pos h2, if_neg hne]
    · simp only [if_neg h2, if_pos hj]; rw [word_or]
      by_cases h : j = i
      · rw [if_pos h, if_pos (by omega)]
      · rw [if_neg h, if_neg (by omega)]
theorem cut_next (a : Ad) (ha : a.ok) (k : Nat) (hk : k < 128) : a.cut (k + 1) = if a.bit k = 1 then (a.cut k).with k else a.cut k := by
  have hb := Ad.bit_le a k
  split
  · rename_i h
    apply Ad.ext_bits (Ad.cut_ok ha _) (Ad.with_ok (Ad.cut_ok ha _) _)
    intro i hi
    rw [Ad.bit_cut ha _ _ (by omega) hi, Ad.bit_with _ _ _ hk hi, Ad.bit_cut ha _ _ (by omega) hi]
    by_cases e : i = k
    · subst e; rw [if_pos (by omega), if_pos rfl, h]
    · rw [if_neg e]; by_cases e2 : i < k
      · rw [if_pos (by omega), if_pos e2]
      · rw [if_neg (by omega), if_neg e2]
  · rename_i h
    apply Ad.ext_bits (Ad.cut_ok ha _) (Ad.cut_ok ha _)
    intro i hi
    rw [Ad.bit_cut ha _ _ (by omega) hi, Ad.bit_cut ha _ _ (by omega) hi]
    by_cases e : i = k
    · subst e; rw [if_pos (by omega), if_neg (by omega)]; omega
    · by_cases e2 : i < k
      · rw [if_pos (by omega), if_pos e2]
      · rw [if_neg (by omega), if_neg e2]
theorem cut_none {a : Ad} (ha : a.ok) : a.cut 0 = (0, 0) := by
  unfold Ad.cut; rw [Nat.zero_min, cutW_zero ha.1, Nat.zero_sub, cutW_zero ha.2]

theorem ref_cap (n l h : Int) (w : World) : Calls Try.prog 33 #[.int .i64 n, .int .i64 l, .int .i64 h] w fun e w' => e = .returned (.int .i64 (if n < l then l else if h < n then h else n)) ∧ w = w' := by
  by_cases h1 : n < l
  · go_enter Try.func33, Try.ntmps33
    go_wp2
    go_ret
    exact ⟨rfl, rfl⟩
  · by_cases h2 : h < n
    · go_enter Try.func33, Try.ntmps33
      go_wp2
      go_ret
      exact ⟨rfl, rfl⟩
    · go_enter Try.func33, Try.ntmps33
      go_wp2
      go_ret
      exact ⟨rfl, rfl⟩

theorem ref_bit (a : Ad) (ha : a.ok) (i : Int) (w : World) :
    Calls Try.prog 62 #[.agg #[.int .u64 (a.1 : Int), .int .u64 (a.2 : Int)], .int .i64 i] w fun e w' => e = .returned (.int .i64 (if 0 ≤ i then (a.bit i.toNat : Int) else 0)) ∧ Below w.heap.size w w' := by
  obtain ⟨hi, lo⟩ := a
  by_cases h0 : 0 ≤ i
  · obtain ⟨k, rfl⟩ := Int.eq_ofNat_of_zero_le h0
    by_cases h1 : k < 64
    · go_enter Try.func62, Try.ntmps62
      go_wp2
      go_ret
      refine ⟨ret_int ?_, (Below.refl _ _).alloc (Nat.le_refl _) _⟩
      rw [word_bit _ _ ha.1]; simp [Ad.bit, h1]
    · by_cases h2 : k < 128
      · go_enter Try.func62, Try.ntmps62
        go_wp2
        go_ret
        refine ⟨ret_int ?_, (Below.refl _ _).alloc (Nat.le_refl _) _⟩
        rw [word_bit _ _ ha.2]; simp [Ad.bit, h1, h2]
      · go_enter Try.func62, Try.ntmps62
        go_wp2
        go_ret
        exact ⟨ret_int (by simp [Ad.bit_out _ k (by omega)]), (Below.refl _ _).alloc (Nat.le_refl _) _⟩
  · go_enter Try.func62, Try.ntmps62
    go_wp2
    go_ret
    exact ⟨ret_int (by simp [h0]), (Below.refl _ _).alloc (Nat.le_refl _) _⟩
theorem ref_bitN (a : Ad) (ha : a.ok) (k : Nat) (r : Int) (hr : (a.bit k : Int) = r) (w : World) :
    Calls Try.prog 62 #[.agg #[.int .u64 (a.1 : Int), .int .u64 (a.2 : Int)], .int .i64 k] w fun e w' => e = .returned (.int .i64 r) ∧ Below w.heap.size w w' := by
  have := ref_bit a ha (k : Int) w
  rw [if_pos (by omega), Int.toNat_natCast, hr] at this; exact this

theorem shl_one (k : Nat) (h : k < 64) : IntKind.u64.wrap ((2 : Int) ^ k) = ((2 ^ k : Nat) : Int) := by
  rw [pow_int]; exact u64_nat _ (Nat.pow_lt_pow_right (by decide) h)
theorem ref_with (a : Ad) (ha : a.ok) (k : Nat) (hk : k < 128) (w : World) :
    Calls Try.prog 63 #[.agg #[.int .u64 (a.1 : Int), .int .u64 (a.2 : Int)], .int .i64 k] w fun e w' => e = .returned (.agg #[.int .u64 ((a.with k).1 : Int), .int .u64 ((a.with k).2 : Int)]) ∧ Below w.heap.size w w' := by
  obtain ⟨hi, lo⟩ := a
  by_cases h1 : k < 64
  · have e1 := shl_one (63 - k) (by omega)
    have e2 := bits_or hi (2 ^ (63 - k)) ha.1 (Nat.pow_lt_pow_right (by decide) (by omega))
    have E1 := hid e1
    have E2 := hid e2
    clear e1 e2
    go_enter Try.func63, Try.ntmps63
    go_wp2
    refine bodyPost_ret (v := .agg #[.int .u64 (bits .or .u64 (hi : Int) (IntKind.u64.wrap (2 ^ (63 - k)))), .int .u64 (lo : Int)]) (by simp [results, Try.results63, go_sem]) rfl ⟨?_, ?_⟩
    · rw [E1.out, E2.out]; simp [Ad.with, h1]
    · repeat (first | exact Below.refl _ _ | apply Below.drew | (refine Below.alloc ?_ (by simp) _))
  · have e1 := shl_one (127 - k) (by omega)
    have e2 := bits_or lo (2 ^ (127 - k)) ha.2 (Nat.pow_lt_pow_right (by decide) (by omega))
    have E1 := hid e1
    have E2 := hid e2
    clear e1 e2
    go_enter Try.func63, Try.ntmps63
    go_wp2
    refine bodyPost_ret (v := .agg #[.int .u64 (hi : Int), .int .u64 (bits .or .u64 (lo : Int) (IntKind.u64.wrap (2 ^ (127 - k))))]) (by simp [results, Try.results63, go_sem]) rfl ⟨?_, ?_⟩
    · rw [E1.out, E2.out]; simp [Ad.with, h1]
    · repeat (first | exact Below.refl _ _ | apply Below.drew | (refine Below.alloc ?_ (by simp) _))

structure CutRel (w : World) (a : Ad) (k : Nat) (wr : World) : Prop where
  out : Blk wr (w.heap.size + 2) 49 [.int .u64 ((a.cut k).1 : Int), .int .u64 ((a.cut k).2 : Int)]
  res : Blk wr (w.heap.size + 1) 49 [.int .u64 0, .int .u64 0]
  arg : Blk wr w.heap.size 49 [.int .u64 (a.1 : Int), .int .u64 (a.2 : Int)]
  below : Below w.heap.size w wr
theorem CutRel.next {w : World} {a : Ad} {k : Nat} {wr w' : World} (h : CutRel w a k wr) (hb : Below wr.heap.size wr w') : CutRel w a k w' :=
  ⟨h.out.below' hb, h.res.below' hb, h.arg.below' hb, held_next h.below hb⟩
theorem CutRel.store {w : World} {a : Ad} {k : Nat} {wr : World} (h : CutRel w a k wr) (he : a.cut (k + 1) = (a.cut k).with k) :
    CutRel w a (k + 1) ((wr.setCell ⟨w.heap.size + 2, 0, none⟩ (.int .u64 (((a.cut k).with k).1 : Int))).setCell ⟨w.heap.size + 2, 1, none⟩ (.int .u64 (((a.cut k).with k).2 : Int))) :=
  ⟨by rw [he]; exact (h.out.set 0 _).set 1 _, (h.res.set_ne (by simp) _).set_ne (by simp) _, (h.arg.set_ne (by simp) _).set_ne (by simp) _,
    (h.below.setCell (by simp) _).setCell (by simp) _⟩
def CutLoop (w : World) (a : Ad) (n : Nat) (i : Value) (wr : World) : Prop := ∃ k : Nat, k ≤ n ∧ i = .int .i64 k ∧ CutRel w a k wr

theorem ref_cut (a : Ad) (ha : a.ok) (n : Int) (w : World) :
    Calls Try.prog 52 #[.agg #[.int .u64 (a.1 : Int), .int .u64 (a.2 : Int)], .int .i64 n] w fun e w' => e = .returned (.agg #[.int .u64 ((a.cut (capL n)).1 : Int), .int .u64 ((a.cut (capL n)).2 : Int)]) ∧ Below w.heap.size w w' := by
  obtain ⟨N, hN⟩ : ∃ N : Nat, N = capL n := ⟨_, rfl⟩
  have hN128 : N ≤ 128 := by unfold capL at hN; omega
  have hcap := fun w => ref_cap n 0 128 w
  have hv : (if n < 0 then 0 else if 128 < n then 128 else n) = (N : Int) := by unfold capL at hN; split <;> (try split) <;> omega
  rw [hv] at hcap
  rw [← hN]
  have HC := hid hcap
  clear hcap hv hN
  have h0 := cut_none ha
  have hbit := fun k w => ref_bitN a ha k _ rfl w
  have hwith := fun k (hk : k < 128) w => ref_with (a.cut k) (Ad.cut_ok ha k) k hk w
  have hnext := fun k hk => cut_next a ha k hk
  have hble := fun k => Ad.bit_le a k
  have HBIT := hid hbit
  have HWITH := hid hwith
  have HNEXT := hid hnext
  have HBLE := hid hble
  have H0 := hid h0
  clear hbit hwith hnext hble h0
  obtain ⟨x, y⟩ := a
  go_enter Try.func52, Try.ntmps52
  go_wp2_with fail
  refine (HC.out _).mono ?_
  rintro _ w1 ⟨rfl, rfl⟩
  go_wp2_with fail
  go_loopw [6] (fun i wr => CutLoop w (x, y) N i wr) (fun i _ => N - (intOf i).toNat)
  case atStart =>
    refine ⟨0, Nat.zero_le _, rfl, ?_, ?_, ?_, ?_⟩
    · rw [H0.out]; exact Blk.new_at _ _ _ _ (by simp)
    · exact (Blk.new_at (w.alloc _) #[.int .u64 0, .int .u64 0] 49 _ (by simp)).alloc _
    · exact ((Blk.new_at w #[.int .u64 (x : Int), .int .u64 (y : Int)] 49 _ rfl).alloc _).alloc _
    · exact (((Below.refl _ _).alloc (Nat.le_refl _) _).alloc (by simp) _).alloc (by simp; omega) _
  case round =>
    obtain ⟨k, hk, rfl, hR⟩ := hrel
    have a0 := hR.arg.cellv (i := 0) rfl
    have a1 := hR.arg.cellv (i := 1) rfl
    by_cases hlt : k < N
    · go_wp2_with fail
      refine (HBIT.out _ _).mono ?_
      rintro _ w2 ⟨rfl, hb2⟩
      have hR2 := hR.next hb2
      clear hR hb2 a0 a1
      have hle := HBLE.out k
      by_cases h1 : Ad.bit (x, y) k = 1
      · have hnx := HNEXT.out k (by omega)
        rw [if_pos h1] at hnx
        have HNX := hid hnx
        rw [h1]
        have o0 := hR2.out.cellv (i := 0) rfl
        have o1 := hR2.out.cellv (i := 1) rfl
        clear hnx h1
        go_wp2_with fail
        refine (HWITH.out k (by omega) _).mono ?_
        rintro _ w3 ⟨rfl, hb3⟩
        have hR3 := hR2.next hb3
        have o0 := hR3.out.cellv (i := 0) rfl
        have o1 := hR3.out.cellv (i := 1) rfl
        have f0 := hR3.out.frozen 0
        have f1 := hR3.out.frozen 1
        clear hR2 hb3
        go_wp2_with fail
        go_roundw
        case rel => exact ⟨k + 1, by omega, by go_num, hR3.store HNX.out⟩
        case measure => simp [intOf]; omega
      · have hnx := HNEXT.out k (by omega)
        rw [if_neg h1] at hnx
        have HNX := hid hnx
        have h0 : Ad.bit (x, y) k = 0 := by omega
        rw [h0]
        clear hnx h1 h0
        go_wp2_with fail
        go_roundw
        case rel => exact ⟨k + 1, by omega, by go_num, by rw [HNX.out]; exact hR2.out, hR2.res, hR2.arg, hR2.below⟩
        case measure => simp [intOf]; omega
    · obtain rfl : k = N := by omega
      have o0 := hR.out.cellv (i := 0) rfl
      have o1 := hR.out.cellv (i := 1) rfl
      have r0 := hR.res.cellv (i := 0) rfl
      have r1 := hR.res.cellv (i := 1) rfl
      have f0 := hR.res.frozen 0
      have f1 := hR.res.frozen 1
      have hb := hid hR.below
      clear hlt hk
      go_wp2_with fail
      refine bodyPost_ret (v := .agg #[.int .u64 ((Ad.cut (x, y) k).1 : Int), .int .u64 ((Ad.cut (x, y) k).2 : Int)]) (by simp [results, Try.results52, go_sem, r0, r1]) rfl ⟨rfl, ?_⟩
      exact (hb.out.setCell (by simp) _).setCell (by simp) _

theorem ref_cutN (a : Ad) (ha : a.ok) (k : Nat) (hk : k ≤ 128) (r : Ad) (hr : a.cut k = r) (w : World) :
    Calls Try.prog 52 #[.agg #[.int .u64 (a.1 : Int), .int .u64 (a.2 : Int)], .int .i64 k] w fun e w' => e = .returned (.agg #[.int .u64 (r.1 : Int), .int .u64 (r.2 : Int)]) ∧ Below w.heap.size w w' := by
  have := ref_cut a ha (k : Int) w
  rw [show capL (k : Int) = k from by unfold capL; omega, hr] at this; exact this

theorem ref_right (a : Ad) (ha : a.ok) (n : Int) (b : Bool) (hb : b = decide (Pf.right (a, n))) (w : World) :
    Calls Try.prog 37 #[.agg #[.int .u64 (a.1 : Int), .int .u64 (a.2 : Int), .int .i64 n]] w fun e w' => e = .returned (.bool b) ∧ Below w.heap.size w w' := by
  obtain ⟨hi, lo⟩ := a
  have hg := guard_ad
  have HB := hid hb
  clear hb
  have hcase : (0 ≤ n ∧ n ≤ 128) ∨ decide (0 ≤ n) = false ∨ (decide (0 ≤ n) = true ∧ decide (n ≤ 128) = false) := by
    by_cases h0 : 0 ≤ n <;> by_cases h1 : n ≤ 128 <;> simp [h0, h1] <;> omega
  rcases hcase with ⟨h0, h1⟩ | h0 | ⟨h0, h1⟩
  all_goals
    go_enter Try.func37, Try.ntmps37
    go_wp2_with fail
    refine wp_region_later (fun w' => w'.cell? ⟨w.heap.size, 0, none⟩ = some (.int .u64 (hi : Int)) ∧ w'.cell? ⟨w.heap.size, 1, none⟩ = some (.int .u64 (lo : Int)) ∧ w'.cell? ⟨w.heap.size, 2, none⟩ = some (.int .i64 n))
      (fun x => ⟨x.cell (by simp), x.cell (by simp), x.cell (by simp)⟩) (by kernel_rfl) (by kernel_rfl) (fun HS => ?_)
    repeat (go_big_quiet_step (first
      | (go_at_call 52; exact Later.calls _ (ref_cut (hi, lo) ha n _))))
    refine wpQuiet_nil ?_
    rintro _ ⟨⟨w1, hb1⟩, rfl⟩
    go_wp2
    go_ret
    refine ⟨?_, Below.trans (b := _) ((Below.refl _ _).alloc (Nat.le_refl _) _) (hb1.mono (by simp))⟩
  · refine ret_bool ?_
    rw [ad_beq (Ad.cut (hi, lo) (capL n)) (hi, lo), HB.out]
    have hc : capL n = n.toNat := by unfold capL; omega
    rw [hc]
    simp [Pf.right, h0, h1]
  · refine ret_bool ?_
    rw [HB.out]
    exact (decide_eq_false (fun k => absurd k.1 (of_decide_eq_false h0))).symm
  · refine ret_bool ?_
    rw [HB.out]
    exact (decide_eq_false (fun k => absurd k.2.1 (of_decide_eq_false h1))).symm

theorem ref_less (p q : Pf) (b : Bool) (hb : b = decide (p.lt q)) (w : World) :
    Calls Try.prog 57 #[.agg #[.int .u64 (p.1.1 : Int), .int .u64 (p.1.2 : Int), .int .i64 p.2], .agg #[.int .u64 (q.1.1 : Int), .int .u64 (q.1.2 : Int), .int .i64 q.2]] w fun e w' => e = .returned (.bool b) ∧ Below w.heap.size w w' := by
  obtain ⟨⟨a, b'⟩, n⟩ := p
  obtain ⟨⟨c, d⟩, m⟩ := q
  have HB := hid hb
  clear hb
  by_cases h1 : a = c
  · have e1 : ((a : Int) != (c : Int)) = false := by simp [h1]
    by_cases h2 : b' = d
    · have e2 : ((b' : Int) != (d : Int)) = false := by simp [h2]
      have H1 := hid h1
      have H2 := hid h2
      clear h1 h2
      go_enter Try.func57, Try.ntmps57
      go_wp2
      go_ret
      refine ⟨ret_bool ?_, ((Below.refl _ _).alloc (Nat.le_refl _) _).alloc (by simp) _⟩
      rw [HB.out]; unfold Pf.lt; simp [H1.out, H2.out]
    · have e2 : ((b' : Int) != (d : Int)) = true := by simp [h2]; omega
      have H1 := hid h1
      have H2 := hid h2
      clear h1 h2
      go_enter Try.func57, Try.ntmps57
      go_wp2
      go_ret
      refine ⟨ret_bool ?_, ((Below.refl _ _).alloc (Nat.le_refl _) _).alloc (by simp) _⟩
      rw [HB.out]; unfold Pf.lt; simp [H1.out, H2.out]
  · have e1 : ((a : Int) != (c : Int)) = true := by simp [h1]; omega
    have H1 := hid h1
    clear h1
    go_enter Try.func57, Try.ntmps57
    go_wp2
    go_ret
    refine ⟨ret_bool ?_, ((Below.refl _ _).alloc (Nat.le_refl _) _).alloc (by simp) _⟩
    rw [HB.out]; unfold Pf.lt; simp [H1.out]

structure ComRel (w : World) (a b : Ad) (wr : World) : Prop where
  a : Blk wr w.heap.size 49 [.int .u64 (a.1 : Int), .int .u64 (a.2 : Int)]
  b : Blk wr (w.heap.size + 1) 49 [.int .u64 (b.1 : Int), .int .u64 (b.2 : Int)]
  below : Below w.heap.size w wr
def ComLoop (w : World) (a b : Ad) (N : Nat) (i : Value) (wr : World) : Prop := ∃ k : Nat, k ≤ N ∧ i = .int .i64 k ∧ ComRel w a b wr

end Go.Proofs.Ytcnecjjgnnkjkaa

namespace Go.Proofs.Ytcnecjjgnnkjkaa
open Go.RowKit
set_option linter.unusedVariables false
set_option linter.unusedSimpArgs false
set_option maxRecDepth 100000

/-- A route: its prefix, its hop. -/
abbrev Rt := Pf × Int
def rtEn (r : Rt) : List Value := [.int .u64 (r.1.1.1 : Int), .int .u64 (r.1.1.2 : Int), .int .i64 r.1.2, .int .i64 r.2]
theorem rtEn_length (r : Rt) : (rtEn r).length = 4 := rfl
theorem pfEn_len (p : Pf) : (pfEn p).length = 3 := rfl
def Rt.fit (r : Rt) : Prop := r.1.fit ∧ (Lit.int .i64 r.2).wf = true
theorem open_rt : Opens Try.prog 87 Rt rtEn Rt.fit :=
  (Opens.struct2 Try.underlying87 open_pf (Opens.int Try.underlying3 (by kernel_rfl)) ⟨rfl, by kernel_rfl, by kernel_rfl⟩).map (fun x => (x.1, x.2))
    (fun a h => rfl) (fun _ => (show 4 = Try.prog.cellsOf 87 by kernel_rfl)) (fun a h => h)
theorem rt_cells : Try.prog.cellsOf 87 = 4 := by kernel_rfl
theorem pf_cells : Try.prog.cellsOf 51 = 3 := by kernel_rfl
theorem eq_rt (d : Nat) (w : World) (x0 y0 x1 y1 x2 y2 x3 y3 : Int) :
    (Op.equalIn (d + 4) 87 (.agg #[.int .u64 x0, .int .u64 x1, .int .i64 x2, .int .i64 x3]) (.agg #[.int .u64 y0, .int .u64 y1, .int .i64 y2, .int .i64 y3])).run Try.prog w = .ok (((x0 == y0 && (x1 == y1)) && (x2 == y2)) && (x3 == y3)) w := by
  refine eqs_of Try.underlying87 (by kernel_rfl) ?_
  refine eqf2 (by rfl) (by (go_simp; try rfl)) (by (go_simp; try rfl)) (eq_pf _ _ _ _ _ _ _ _) ?_
  exact eqf1 (by rfl) (by (go_simp; try rfl)) (by (go_simp; try rfl)) (by go_simp)
attribute [local go_sem high] eq_ad eq_pf eq_rt
theorem guard_rt : Try.prog.eqGuardType Try.prog.depth 87 = false := by kernel_rfl
theorem rt_beq (p q : Rt) : (((((p.1.1.1 : Nat) : Int) == (q.1.1.1 : Int) && (((p.1.1.2 : Nat) : Int) == (q.1.1.2 : Int))) && (p.1.2 == q.1.2)) && (p.2 == q.2)) = decide (p = q) := by
  rw [pf_beq, Bool.eq_iff_iff]; simp [Prod.ext_iff]

theorem take_step {α : Type} {l1 l2 : List α} {k : Nat} {x y : α} (h1 : l1[k]? = some x) (h2 : l2[k]? = some y) (he : l1.take k = l2.take k) : l1.take (k + 1) = l2.take (k + 1) ↔ x = y := by
  obtain ⟨a1, rfl⟩ := List.getElem?_eq_some_iff.1 h1
  obtain ⟨a2, rfl⟩ := List.getElem?_eq_some_iff.1 h2
  rw [List.take_succ_eq_append_getElem a1, List.take_succ_eq_append_getElem a2, he, List.append_cancel_left_eq]; simp
def SameLp {α : Type} (w : World) (l1 l2 : List α) (i : Value) (wr : World) : Prop := ∃ k : Nat, k ≤ l1.length ∧ i = .int .i64 k ∧ l1.take k = l2.take k ∧ Below w.heap.size w wr

theorem ref_sameRts (w : World) (v1 v2 : Value) (l1 l2 : List Rt) (h1 : Rd rtEn 4 w v1 l1) (h2 : Rd rtEn 4 w v2 l2) (b : Bool) (hb : b = decide (l1 = l2)) :
    Calls Try.prog 26 #[v1, v2] w fun e w' => e = .returned (.bool b) ∧ Below w.heap.size w w' := by
  have hg := guard_rt
  have HB := hid hb
  have R1 := hid fun k x (h : l1[k]? = some x) => h1.get rtEn_length (by decide) h
  have R2 := hid fun k x (h : l2[k]? = some x) => h2.get rtEn_length (by decide) h
  obtain ⟨A, c1, rfl, n1, m1⟩ := h1.form
  obtain ⟨B, c2, rfl, n2, m2⟩ := h2.form
  unfold maxLen at m1 m2
  clear hb h1 h2
  by_cases hl : l1.length = l2.length
  · have hn : ((l1.length : Int) != (l2.length : Int)) = false := by simp [hl]
    have HL := hid hl
    clear hl
    go_enter Try.func26, Try.ntmps26
    go_wp2_with fail
    go_loopw [5] (fun i wr => SameLp w l1 l2 i wr) (fun i _ => l1.length - (intOf i).toNat)
    case atStart => exact ⟨0, Nat.zero_le _, rfl, rfl, Below.refl _ _⟩
    case round =>
      obtain ⟨k, hk, rfl, ht, hB⟩ := hrel
      have HT := hid ht
      clear ht
      by_cases hlt : k < l1.length
      · have g1 : l1[k]? = some l1[k] := List.getElem?_eq_getElem hlt
        have g2 : l2[k]? = some (l2[k]'(by have := HL.out; omega)) := List.getElem?_eq_getElem _
        have hnx := hid (take_step g1 g2 HT.out)
        have hk2 : k < l2.length := by have := HL.out; omega
        generalize l1[k] = x at g1 hnx
        generalize l2[k]'_ = y at g2 hnx
        obtain ⟨ba, oa, ca, ha, _, _, la, sa⟩ := R1.out k x g1
        obtain ⟨bb, ob, cb, hb, _, _, lb, sb⟩ := R2.out k y g2
        injection ha with ha _ hc1
        injection hb with hb _ hc2
        subst ha hb hc1 hc2
        have u0 : wr.cell? ⟨ba, oa + k * 4, none⟩ = some (.int .u64 (x.1.1.1 : Int)) := (hB.cell (p := ⟨ba, oa + k * 4, none⟩) la).trans (sa 0 _ rfl)
        have u1 : wr.cell? ⟨ba, oa + k * 4 + 1, none⟩ = some (.int .u64 (x.1.1.2 : Int)) := (hB.cell (p := ⟨ba, oa + k * 4 + 1, none⟩) la).trans (sa 1 _ rfl)
        have u2 : wr.cell? ⟨ba, oa + k * 4 + 2, none⟩ = some (.int .i64 x.1.2) := (hB.cell (p := ⟨ba, oa + k * 4 + 2, none⟩) la).trans (sa 2 _ rfl)
        have u3 : wr.cell? ⟨ba, oa + k * 4 + 3, none⟩ = some (.int .i64 x.2) := (hB.cell (p := ⟨ba, oa + k * 4 + 3, none⟩) la).trans (sa 3 _ rfl)
        have v0 : wr.cell? ⟨bb, ob + k * 4, none⟩ = some (.int .u64 (y.1.1.1 : Int)) := (hB.cell (p := ⟨bb, ob + k * 4, none⟩) lb).trans (sb 0 _ rfl)
        have v1 : wr.cell? ⟨bb, ob + k * 4 + 1, none⟩ = some (.int .u64 (y.1.1.2 : Int)) := (hB.cell (p := ⟨bb, ob + k * 4 + 1, none⟩) lb).trans (sb 1 _ rfl)
        have v2 : wr.cell? ⟨bb, ob + k * 4 + 2, none⟩ = some (.int .i64 y.1.2) := (hB.cell (p := ⟨bb, ob + k * 4 + 2, none⟩) lb).trans (sb 2 _ rfl)
        have v3 : wr.cell? ⟨bb, ob + k * 4 + 3, none⟩ = some (.int .i64 y.2) := (hB.cell (p := ⟨bb, ob + k * 4 + 3, none⟩) lb).trans (sb 3 _ rfl)
        have hbe := rt_beq x y
        clear g1 g2 sa sb
        by_cases he : x = y
        · rw [decide_eq_true he] at hbe
          have HE := hid he
          clear he
          go_wp2_with fail
          go_quiet (fail)
          go_wp2_with fail
          go_roundw
          case rel => exact ⟨k + 1, by omega, by go_num, hnx.out.2 HE.out, hB.drewN _⟩
          case measure => simp [intOf]; omega
        · rw [decide_eq_false he] at hbe
          have HE := hid he
          clear he
          go_wp2_with fail
          go_quiet (fail)
          go_wp2_with fail
          go_ret
          refine ⟨ret_bool ?_, hB.drewN _⟩
          rw [HB.out]
          exact (decide_eq_false fun h => HE.out (hnx.out.1 (by rw [h]))).symm
      · have hkl : k = l1.length := by omega
        have HK := hid hkl
        clear hkl
        go_wp2_with fail
        go_ret
        refine ⟨ret_bool ?_, hB⟩
        rw [HB.out]
        have e := HT.out
        rw [HK.out, List.take_of_length_le (Nat.le_refl _), HL.out, List.take_of_length_le (Nat.le_refl _)] at e
        exact (decide_eq_true e).symm
  · have hn : ((l1.length : Int) != (l2.length : Int)) = true := by simp [hl]; omega
    have HL := hid hl
    clear hl
    go_enter Try.func26, Try.ntmps26
    go_wp2_with fail
    go_ret
    refine ⟨ret_bool ?_, Below.refl _ _⟩
    rw [HB.out]
    exact (decide_eq_false fun h => HL.out (by rw [h])).symm

end Go.Proofs.Ytcnecjjgnnkjkaa

namespace Go.Proofs.Ytcnecjjgnnkjkaa
open Go.RowKit
set_option linter.unusedVariables false
set_option linter.unusedSimpArgs false
set_option maxRecDepth 100000
attribute [local go_sem high] eq_ad eq_pf eq_rt

theorem rt_row : (Try.prog.info? 87).map (fun i => (i.zero, i.size, i.bytes)) = some (some (.agg #[.int .u64 0, .int .u64 0, .int .i64 0, .int .i64 0]), 4, 32) := by kernel_rfl
theorem cells_rt (r : Rt) : ∀ u ∈ rtEn r, u.oneCell' = true := by intro u hu; simp [rtEn] at hu; rcases hu with rfl | rfl | rfl | rfl <;> rfl
def rtsV (l : List Rt) : List Value := l.flatMap rtEn
theorem rtsV_snoc (l : List Rt) (r : Rt) : rtsV (l ++ [r]) = rtsV l ++ [.int .u64 (r.1.1.1 : Int), .int .u64 (r.1.1.2 : Int), .int .i64 r.1.2, .int .i64 r.2] := by simp [rtsV, rtEn]
/-- A result that is a slice of the call's own, read as a list of routes. -/
def OwnRts (w : World) (l : List Rt) (w' : World) (v : Value) : Prop := Owns w' w.heap.size 87 4 v l.length (rtsV l)
def RetRts (w : World) (l : List Rt) (e : Ending) (w' : World) : Prop := ∃ v, e = .returned v ∧ OwnRts w l w' v ∧ Below w.heap.size w w'
theorem OwnRts.rd {w w' : World} {l : List Rt} {v : Value} (h : OwnRts w l w' v) : Rd rtEn 4 w' v l := Rd.of_owns h rtEn_length
theorem OwnRts.form {w w' : World} {l : List Rt} {v : Value} (h : OwnRts w l w' v) : ∃ A cap, v = .slice A l.length cap := let ⟨A, c, h1, _⟩ := Owns.form h; ⟨A, c, h1⟩

/-- Where a prefix is; below 0: nowhere. -/
def findI (l : List Rt) (p : Pf) : Int := match l.findIdx? (fun r => decide (r.1 = p)) with | some k => (k : Int) | none => -1
theorem findI_none {l : List Rt} {p : Pf} (h : ∀ (j : Nat) (r : Rt), l[j]? = some r → r.1 ≠ p) : findI l p = -1 := by
  unfold findI
  rw [List.findIdx?_eq_none_iff.2]
  intro r hr
  obtain ⟨j, hj⟩ := List.getElem?_of_mem hr
  simpa using h j r hj
theorem findI_some {l : List Rt} {p : Pf} {k : Nat} {r : Rt} (hk : l[k]? = some r) (hr : r.1 = p) (h : ∀ (j : Nat) (r : Rt), j < k → l[j]? = some r → r.1 ≠ p) : findI l p = (k : Int) := by
  unfold findI
  have : l.findIdx? (fun r => decide (r.1 = p)) = some k := by
    rw [List.findIdx?_eq_some_iff_getElem]
    obtain ⟨hl, he⟩ := List.getElem?_eq_some_iff.1 hk
    refine ⟨hl, by rw [he]; simpa using hr, fun j hj => ?_⟩
    have := h j _ hj (List.getElem?_eq_getElem (by omega))
    simpa using this
  rw [this]

def FindRel (w : World) (p : Pf) (l : List Rt) (i : Value) (wr : World) : Prop :=
  ∃ k : Nat, k ≤ l.length ∧ i = .int .i64 k ∧ (∀ (j : Nat) (r : Rt), j < k → l[j]? = some r → r.1 ≠ p) ∧ Blk wr w.heap.size 51 [.int .u64 (p.1.1 : Int), .int .u64 (p.1.2 : Int), .int .i64 p.2] ∧ Below w.heap.size w wr

theorem ref_find (w : World) (v : Value) (l : List Rt) (hR : Rd rtEn 4 w v l) (p : Pf) :
    Calls Try.prog 28 #[v, .agg #[.int .u64 (p.1.1 : Int), .int .u64 (p.1.2 : Int), .int .i64 p.2]] w fun e w' => e = .returned (.int .i64 (findI l p)) ∧ Below w.heap.size w w' := by
  have hg := guard_pf
  have HR := hid fun k x (h : l[k]? = some x) => hR.get rtEn_length (by decide) h
  obtain ⟨A, cap, rfl, n1, m1⟩ := hR.form
  unfold maxLen at m1
  clear hR
  obtain ⟨⟨a, b⟩, n⟩ := p
  go_enter Try.func28, Try.ntmps28
  go_wp2_with fail
  go_loopw [5] (fun i wr => FindRel w ((a, b), n) l i wr) (fun i _ => l.length - (intOf i).toNat)
  case atStart => exact ⟨0, Nat.zero_le _, rfl, fun j r h => by omega, Blk.new_at w #[.int .u64 (a : Int), .int .u64 (b : Int), .int .i64 n] 51 _ rfl, (Below.refl _ _).alloc (Nat.le_refl _) _⟩
  case round =>
    obtain ⟨k, hk, rfl, hno, hX, hB⟩ := hrel
    have HNO := hid hno
    have HX := hid hX
    have HB := hid hB
    have x0 := hX.cellv (i := 0) rfl
    have x1 := hX.cellv (i := 1) rfl
    have x2 := hX.cellv (i := 2) rfl
    by_cases hlt : k < l.length
    · have g1 : l[k]? = some l[k] := List.getElem?_eq_getElem hlt
      generalize l[k] = x at g1
      obtain ⟨ba, oa, ca, ha, _, _, la, sa⟩ := HR.out k x g1
      injection ha with ha hx1 hc1
      subst ha hc1
      clear hx1
      have u0 : wr.cell? ⟨ba, oa + k * 4, none⟩ = some (.int .u64 (x.1.1.1 : Int)) := (hB.cell (p := ⟨ba, oa + k * 4, none⟩) la).trans (sa 0 _ rfl)
      have u1 : wr.cell? ⟨ba, oa + k * 4 + 1, none⟩ = some (.int .u64 (x.1.1.2 : Int)) := (hB.cell (p := ⟨ba, oa + k * 4 + 1, none⟩) la).trans (sa 1 _ rfl)
      have u2 : wr.cell? ⟨ba, oa + k * 4 + 2, none⟩ = some (.int .i64 x.1.2) := (hB.cell (p := ⟨ba, oa + k * 4 + 2, none⟩) la).trans (sa 2 _ rfl)
      have hbe := pf_beq x.1 ((a, b), n)
      have G1 := hid g1
      clear g1 sa hno hX hB
      by_cases he : x.1 = ((a, b), n)
      · rw [decide_eq_true he] at hbe
        have HE := hid he
        clear he
        go_wp2_with fail
        go_quiet (fail)
        go_wp2_with fail
        go_ret
        exact ⟨ret_int (findI_some G1.out HE.out HNO.out).symm, HB.out.drewN _⟩
      · rw [decide_eq_false he] at hbe
        have HE := hid he
        clear he
        go_wp2_with fail
        go_quiet (fail)
        go_wp2_with fail
        go_roundw
        case rel =>
          refine ⟨k + 1, by omega, by go_num, fun j r hj hr => ?_, HX.out.drewN _, HB.out.drewN _⟩
          by_cases e : j = k
          · subst e
            have h1 := G1.out
            rw [hr] at h1
            injection h1 with h1
            subst h1
            exact HE.out
          · exact HNO.out j r (by omega) hr
        case measure => simp [intOf]; omega
    · have hno' := hid (fun (j : Nat) (r : Rt) (h : l[j]? = some r) => hno j r (by have := (List.getElem?_eq_some_iff.1 h).1; omega) h)
      clear hno hX hB
      go_wp2_with fail
      go_ret
      exact ⟨ret_int (findI_none hno'.out).symm, HB.out⟩

def withoutL (l : List Rt) (p : Pf) : List Rt := l.filter fun r => decide (r.1 ≠ p)
def WithRel (w : World) (p : Pf) (l : List Rt) (v i : Value) (wr : World) : Prop :=
  ∃ k : Nat, k ≤ l.length ∧ i = .int .i64 k ∧ Owns wr (w.heap.size + 1) 87 4 v (withoutL (l.take k) p).length (rtsV (withoutL (l.take k) p)) ∧
    Blk wr w.heap.size 51 [.int .u64 (p.1.1 : Int), .int .u64 (p.1.2 : Int), .int .i64 p.2] ∧ Below w.heap.size w wr
theorem without_snoc {l : List Rt} {k : Nat} {x : Rt} (h : l[k]? = some x) (p : Pf) : withoutL (l.take (k + 1)) p = withoutL (l.take k) p ++ if x.1 = p then [] else [x] := by
  obtain ⟨hk, rfl⟩ := List.getElem?_eq_some_iff.1 h
  unfold withoutL
  rw [List.take_succ_eq_append_getElem hk, List.filter_append]
  by_cases e : l[k].1 = p <;> simp [e]
theorem without_le (l : List Rt) (p : Pf) : (withoutL l p).length ≤ l.length := List.length_filter_le _ _

theorem ref_without (w : World) (v : Value) (l : List Rt) (hR : Rd rtEn 4 w v l) (hlen : l.length ≤ 100000) (p : Pf) :
    Calls Try.prog 43 #[v, .agg #[.int .u64 (p.1.1 : Int), .int .u64 (p.1.2 : Int), .int .i64 p.2]] w (RetRts w (withoutL l p)) := by
  have hg := guard_pf
  have HR := hid fun k x (h : l[k]? = some x) => hR.get rtEn_length (by decide) h
  obtain ⟨A, cap, rfl, n1, m1⟩ := hR.form
  unfold maxLen at m1
  clear hR
  obtain ⟨⟨a, b⟩, n⟩ := p
  go_enter Try.func43, Try.ntmps43
  go_wp2_with fail
  go_loopw [5, 6] (fun v i wr => WithRel w ((a, b), n) l v i wr) (fun _ i _ => l.length - (intOf i).toNat)
  case atStart => exact ⟨0, Nat.zero_le _, rfl, Owns.nil _ _ _ _, Blk.new_at w #[.int .u64 (a : Int), .int .u64 (b : Int), .int .i64 n] 51 _ rfl, (Below.refl _ _).alloc (Nat.le_refl _) _⟩
  case round =>
    obtain ⟨k, hk, rfl, hO, hX, hB⟩ := hrel
    by_cases hlt : k < l.length
    · have g1 : l[k]? = some l[k] := List.getElem?_eq_getElem hlt
      generalize l[k] = x at g1
      have hsn := without_snoc g1 ((a, b), n)
      obtain ⟨ba, oa, ca, ha, _, _, la, sa⟩ := HR.out k x g1
      injection ha with ha hx1 hc1
      subst ha hc1
      clear hx1
      have x0 := hX.cellv (i := 0) rfl
      have x1 := hX.cellv (i := 1) rfl
      have x2 := hX.cellv (i := 2) rfl
      have hle1 := without_le (l.take k) ((a, b), n)
      have hle2 : (l.take k).length ≤ k := List.length_take_le _ _
      generalize hcur : withoutL (l.take k) ((a, b), n) = cur at hO hsn hle1
      obtain ⟨A2, cap2, rfl, hnc, hcm, hform⟩ := hO.form
      have u0 : wr.cell? ⟨ba, oa + k * 4, none⟩ = some (.int .u64 (x.1.1.1 : Int)) := (hB.cell (p := ⟨ba, oa + k * 4, none⟩) la).trans (sa 0 _ rfl)
      have u1 : wr.cell? ⟨ba, oa + k * 4 + 1, none⟩ = some (.int .u64 (x.1.1.2 : Int)) := (hB.cell (p := ⟨ba, oa + k * 4 + 1, none⟩) la).trans (sa 1 _ rfl)
      have u2 : wr.cell? ⟨ba, oa + k * 4 + 2, none⟩ = some (.int .i64 x.1.2) := (hB.cell (p := ⟨ba, oa + k * 4 + 2, none⟩) la).trans (sa 2 _ rfl)
      have u3 : wr.cell? ⟨ba, oa + k * 4 + 3, none⟩ = some (.int .i64 x.2) := (hB.cell (p := ⟨ba, oa + k * 4 + 3, none⟩) la).trans (sa 3 _ rfl)
      have hbe := pf_beq x.1 ((a, b), n)
      have HO := hid hO
      have HX := hid hX
      have HB := hid hB
      have HXL := hX.lt
      have HCUR := hid hcur
      clear g1 sa hO hX hB hform hcur
      by_cases he : x.1 = ((a, b), n)
      · rw [decide_eq_true he] at hbe
        rw [if_pos he, List.append_nil] at hsn
        have HSN := hid hsn
        clear he hsn
        go_wp2_with fail
        go_quiet (fail)
        go_wp2_with fail
        go_roundw
        case rel => exact ⟨k + 1, by omega, by go_num, by rw [HSN.out]; exact HO.out.below ((Below.refl _ _).drewN _), HX.out.drewN _, HB.out.drewN _⟩
        case measure => simp [intOf]; omega
      · rw [decide_eq_false he] at hbe
        rw [if_neg he] at hsn
        have HSN := hid hsn
        obtain ⟨⟨⟨xa, xb⟩, xn⟩, xh⟩ := x
        clear he hsn
        go_wp2_with fail
        go_quiet (fail)
        go_wp2_with (at_builtin; refine wpList_pushm rfl _ _ 60 rfl 87 _ 4 32 Try.underlying60 rt_row rfl (by decide) (w.heap.size + 1) _ cur.length _ rfl (HO.out.below ((Below.refl _ _).drewN _)) _ rfl 1 [.int .u64 _, .int .u64 _, .int .i64 _, .int .i64 _] rfl rfl ?c1 ?c2 ?c3 ?c4 ?_)
        case c1 => intro u hu; simp at hu; rcases hu with rfl | rfl | rfl | rfl <;> rfl
        case c2 => unfold maxLen; omega
        case c3 => omega
        case c4 => simp; omega
        intro v' w4 hO4 hC4
        have hC4' := hid ((((Chg.refl (fun g => Value.ownBlock (.slice A2 cur.length cap2) = some g) wr).drewN _).trans' hC4))
        have hne := hid (fun h => by have := (HO.out.base_le w.heap.size h).1; omega : ¬ Value.ownBlock (.slice A2 cur.length cap2) = some w.heap.size)
        have HX4 := hid (HX.out.chg hC4'.out hne.out)
        have HB4 := hid (HB.out.trans (hC4'.out.below HB.out.size (fun g hg k => by have := (HO.out.base_le g k).1; omega)))
        have HO4 := hid hO4
        clear hO4 hC4 hC4' hne HO HX HB x0 x1 x2 u0 u1 u2 u3
        go_wp2_with fail
        go_roundw
        case rel => exact ⟨k + 1, by omega, by go_num, by rw [HSN.out, rtsV_snoc, List.length_append]; exact HO4.out, HX4.out, HB4.out⟩
        case measure => simp [intOf]; omega
    · have HO := hid hO
      have HB := hid hB
      have hkk := hid (show l.take k = l from List.take_of_length_le (by omega))
      obtain ⟨A2, cap2, rfl, _, _, _⟩ := hO.form
      clear hO hX hB
      go_wp2_with fail
      go_ret
      refine ⟨_, rfl, ?_, HB.out⟩
      have h := HO.out.lower (show w.heap.size ≤ w.heap.size + 1 by omega)
      rw [hkk.out] at h ⊢
      exact h

/-- Is it of the lengths, and has the address? -/
def inR (p : Pf) (a : Ad) (low high : Int) : Prop := low < p.2 ∧ p.2 ≤ high ∧ p.has a
instance (p : Pf) (a : Ad) (low high : Int) : Decidable (inR p a low high) := by unfold inR; infer_instance
def lenAt (l : List Rt) (b : Nat) : Int := match l[b]? with | some r => r.1.2 | none => 0
/-- Of the first k the longest: the first of those. -/
def lonK (l : List Rt) (a : Ad) (low high : Int) : Nat → Option Nat
  | 0 => none
  | k + 1 => match l[k]? with
    | none => lonK l a low high k
    | some r => if inR r.1 a low high then (match lonK l a low high k with | none => some k | some b => if lenAt l b < r.1.2 then some k else some b) else lonK l a low high k
def obI (o : Option Nat) : Int := match o with | some b => (b : Int) | none => -1
def longI (l : List Rt) (a : Ad) (low high : Int) : Int := obI (lonK l a low high l.length)
theorem lonK_lt {l : List Rt} {a : Ad} {low high : Int} : ∀ {k b : Nat}, lonK l a low high k = some b → b < k ∧ b < l.length
  | 0, b, h => by simp [lonK] at h
  | k + 1, b, h => by
    unfold lonK at h
    cases hk : l[k]? with
    | none => rw [hk] at h; have := lonK_lt h; exact ⟨by omega, this.2⟩
    | some r =>
      have hkl := (List.getElem?_eq_some_iff.1 hk).1
      rw [hk] at h
      simp only at h
      by_cases hin : inR r.1 a low high
      · rw [if_pos hin] at h
        cases hp : lonK l a low high k with
        | none => rw [hp] at h; injection h with h; subst h; exact ⟨by omega, hkl⟩
        | some b' =>
          rw [hp] at h
          have := lonK_lt hp
          simp only at h
          split at h
          · injection h with h; subst h; exact ⟨by omega, hkl⟩
          · injection h with h; subst h; exact ⟨by omega, this.2⟩
      · rw [if_neg hin] at h; have := lonK_lt h; exact ⟨by omega, this.2⟩

def LonRel (w : World) (a : Ad) (l : List Rt) (low high : Int) (be i : Value) (wr : World) : Prop :=
  ∃ k : Nat, k ≤ l.length ∧ i = .int .i64 k ∧ be = .int .i64 (obI (lonK l a low high k)) ∧ Blk wr w.heap.size 49 [.int .u64 (a.1 : Int), .int .u64 (a.2 : Int)] ∧ Below w.heap.size w wr

end Go.Proofs.Ytcnecjjgnnkjkaa

namespace Go.Proofs.Ytcnecjjgnnkjkaa
open Go.RowKit
set_option linter.unusedVariables false
set_option linter.unusedSimpArgs false
set_option maxRecDepth 100000
attribute [local go_sem high] eq_ad eq_pf eq_rt

/-- A route comes into a list, in its place; of one prefix it is instead of the other one. -/
def intoL : List Rt → Rt → List Rt
  | [], r => [r]
  | x :: l, r => if x.1.lt r.1 then x :: intoL l r else if x.1 = r.1 then r :: l else r :: x :: l
theorem into_at {r : Rt} : ∀ {l : List Rt} {k : Nat}, k ≤ l.length → (∀ (j : Nat) (x : Rt), j < k → l[j]? = some x → x.1.lt r.1) → (∀ x, l[k]? = some x → ¬ x.1.lt r.1) →
    ((∀ x, l[k]? = some x → x.1 ≠ r.1) → intoL l r = l.take k ++ (r :: l.drop k)) ∧ (∀ x, l[k]? = some x → x.1 = r.1 → intoL l r = l.set k r)
  | [], k, hk, _, _ => by
    obtain rfl : k = 0 := by simpa using hk
    exact ⟨fun _ => rfl, fun x h => by simp at h⟩
  | y :: l, 0, _, _, h2 => by
    have hy := h2 y rfl
    refine ⟨fun h => ?_, fun x hx he => ?_⟩
    · rw [intoL, if_neg hy, if_neg (h y rfl)]; rfl
    · simp at hx; subst hx; rw [intoL, if_neg hy, if_pos he]; rfl
  | y :: l, k + 1, hk, h1, h2 => by
    have hy := h1 0 y (by omega) rfl
    have ih := into_at (r := r) (l := l) (k := k) (by simpa using hk) (fun j x hj hx => h1 (j + 1) x (by omega) (by simpa using hx)) (fun x hx => h2 x (by simpa using hx))
    refine ⟨fun h => ?_, fun x hx he => ?_⟩
    · rw [intoL, if_pos hy, ih.1 (fun x hx => h x (by simpa using hx))]; rfl
    · rw [intoL, if_pos hy, ih.2 x (by simpa using hx) he]; rfl
theorem into_length (l : List Rt) (r : Rt) : (intoL l r).length ≤ l.length + 1 := by
  induction l with
  | nil => simp [intoL]
  | cons x l ih => unfold intoL; split; · simp; omega
                   · split <;> simp
theorem into_mem {l : List Rt} {r x : Rt} (h : x ∈ intoL l r) : x = r ∨ x ∈ l := by
  induction l with
  | nil => simpa [intoL] using h
  | cons y l ih =>
    unfold intoL at h
    split at h
    · rcases List.mem_cons.1 h with h | h
      · right; rw [h]; exact List.mem_cons_self
      · rcases ih h with h | h
        · exact .inl h
        · exact .inr (List.mem_cons_of_mem _ h)
    · split at h
      · rcases List.mem_cons.1 h with h | h
        · exact .inl h
        · exact .inr (List.mem_cons_of_mem _ h)
      · rcases List.mem_cons.1 h with h | h
        · exact .inl h
        · exact .inr h

theorem Owns.cells {w : World} {base : Nat} {e : TypeId} {size n : Nat} {g cap : Nat} {xs : List Value} (h : Owns w base e size (.slice (some ⟨g, 0, none⟩) n cap) n xs) :
    base ≤ g ∧ (∀ j, j < n * size → w.cell? ⟨g, j, none⟩ = xs[j]?) ∧ ∀ j, w.frozen? ⟨g, j, none⟩ = false := by
  obtain ⟨h1, h2⟩ := h
  rcases h2 with ⟨h2, _⟩ | ⟨g', cap', cur, hv, hb, hh, hn, hm, hs, ht⟩
  · injection h2 with h2; cases h2
  · injection hv with hv _ _
    injection hv with hv
    injection hv with hv
    subst hv
    refine ⟨hb, fun j hj => ?_, fun j => by simp [World.frozen?, hh]⟩
    have : w.cell? ⟨g, j, none⟩ = cur[j]? := by unfold World.cell?; simp only [hh]; rfl
    rw [this, ← ht, List.getElem?_take_of_lt hj]; simp
theorem Owns.store {w : World} {base : Nat} {e : TypeId} {size n : Nat} {g cap : Nat} {xs : List Value} (h : Owns w base e size (.slice (some ⟨g, 0, none⟩) n cap) n xs) (j : Nat) (u : Value) :
    Owns (w.setCell ⟨g, j, none⟩ u) base e size (.slice (some ⟨g, 0, none⟩) n cap) n (xs.set j u) := by
  obtain ⟨h1, h2⟩ := h
  refine ⟨by rw [List.length_set]; exact h1, ?_⟩
  rcases h2 with ⟨h2, _⟩ | ⟨g', cap', cur, hv, hb, hh, hn, hm, hs, ht⟩
  · injection h2 with h2; cases h2
  · injection hv with hv _ hv2
    injection hv with hv
    injection hv with hv
    subst hv hv2
    refine .inr ⟨g, cap, cur.setIfInBounds j u, rfl, hb, ?_, hn, hm, by simpa using hs, ?_⟩
    · have hblk : Blk w g e cur.toList := by unfold Blk; simpa using hh
      have := hblk.set j u
      unfold Blk at this
      have e : (cur.toList.set j u).toArray = cur.setIfInBounds j u := by
        rw [← Array.toList_setIfInBounds]
      rw [this, e]
    · rw [← ht]; simp [List.take_set]
theorem flat_set {α : Type} {en : α → List Value} {size : Nat} (hl : ∀ a, (en a).length = size) : ∀ (l : List α) (k : Nat) (x : α), k < l.length → (l.set k x).flatMap en = (l.flatMap en).take (k * size) ++ en x ++ (l.flatMap en).drop (k * size + size)
  | [], _, _, h => by simp at h
  | y :: l, 0, x, _ => by
    simp only [List.set_cons_zero, List.flatMap_cons, Nat.zero_mul, List.take_zero, Nat.zero_add, List.nil_append]
    rw [List.drop_left' (hl y)]
  | y :: l, k + 1, x, h => by
    simp only [List.set_cons_succ, List.flatMap_cons]
    rw [flat_set hl l k x (by simpa using h)]
    have e : (k + 1) * size = (en y).length + k * size := by rw [hl, Nat.succ_mul]; omega
    rw [e, List.take_length_add_append, Nat.add_assoc, List.drop_length_add_append]
    simp [List.append_assoc]

theorem set4 {α : Type} (a b c d : α) : ∀ (i : Nat) (xs : List α), i + 4 ≤ xs.length → (((xs.set i a).set (i + 1) b).set (i + 2) c).set (i + 3) d = xs.take i ++ [a, b, c, d] ++ xs.drop (i + 4)
  | 0, x0 :: x1 :: x2 :: x3 :: xs, _ => rfl
  | 0, [], h => by simp at h
  | 0, [_], h => by simp at h
  | 0, [_, _], h => by simp at h
  | 0, [_, _, _], h => by simp at h
  | i + 1, [], h => by simp at h
  | i + 1, x :: xs, h => by
    have ih := set4 a b c d i xs (by simp at h; omega)
    show x :: ((((xs.set i a).set (i + 1) b).set (i + 2) c).set (i + 3) d) = _
    rw [ih]; rfl
theorem gen_w {P : Program} {c : Code} {Q : Exit → Act → World → Prop} {a : Act} {w : World} (h : ∀ W, W = w → c.wp P Q a W) : c.wp P Q a w := h w rfl
theorem Rd.empty' {α : Type} {en : α → List Value} {size : Nat} (w : World) (A : Option Addr) (n cap : Nat) (hn : n = 0) (hc : cap ≤ maxLen) (hA : A = none → cap = 0) : Rd en size w (.slice A n cap) ([] : List α) := by subst hn; exact Rd.empty w A cap hc hA
def IntoRel (w : World) (r : Rt) (l : List Rt) (i : Value) (wr : World) : Prop :=
  ∃ k : Nat, k ≤ l.length ∧ i = .int .i64 k ∧ (∀ (j : Nat) (x : Rt), j < k → l[j]? = some x → x.1.lt r.1) ∧ Blk wr w.heap.size 87 (rtEn r) ∧ Below w.heap.size w wr

set_option maxHeartbeats 1000000 in
theorem ref_into_nil (w : World) (A : Option Addr) (r : Rt) :
    Calls Try.prog 42 #[.slice A 0 0, .agg #[.int .u64 (r.1.1.1 : Int), .int .u64 (r.1.1.2 : Int), .int .i64 r.1.2, .int .i64 r.2]] w (RetRts w [r]) := by
  have hg := guard_pf
  obtain ⟨⟨⟨a, b⟩, n⟩, h⟩ := r
  go_enter Try.func42, Try.ntmps42
  go_wp2_with fail
  go_loopw [5] (fun i wr => IntoRel w (((a, b), n), h) [] i wr) (fun _ _ => 0)
  case atStart => exact ⟨0, Nat.zero_le _, rfl, fun j x hj => by omega, Blk.new_at w #[.int .u64 (a : Int), .int .u64 (b : Int), .int .i64 n, .int .i64 h] 87 _ rfl, (Below.refl _ _).alloc (Nat.le_refl _) _⟩
  case round =>
    obtain ⟨k, hk, rfl, hlow, hX, hB⟩ := hrel
    obtain rfl : k = 0 := by simpa using hk
    clear hlow hk
    have x0 := hX.cellv (i := 0) rfl
    have x1 := hX.cellv (i := 1) rfl
    have x2 := hX.cellv (i := 2) rfl
    have HX := hid hX
    have HB := hid hB
    clear hX hB
    go_wp2_with fail
    go_quiet (fail)
    go_wp2_with fail
    go_quiet (fail)
    go_wp2_with fail
    refine gen_w (fun w5 hw5 => ?_)
    have HB5 := hid (show Below w.heap.size w w5 by rw [hw5]; exact (HB.out.drewN _).drewN _)
    have HX5 := hid (show Blk w5 w.heap.size 87 [.int .u64 (a : Int), .int .u64 (b : Int), .int .i64 n, .int .i64 h] by rw [hw5]; exact (HX.out.drewN _).drewN _)
    clear hw5
    have hs5 := HB5.out.size
    have hx5 := HX5.out.lt
    have HBA := hid (show Below w.heap.size w w5.drew from HB5.out.drew)
    have HBB := hid (show Below w.heap.size w (w5.drew.alloc (.cells #[.int .u64 (a : Int), .int .u64 (b : Int), .int .i64 n, .int .i64 h] 87)) from HB5.out.drew.alloc hs5 _)
    have HXA := hid (show Blk w5.drew w.heap.size 87 [.int .u64 (a : Int), .int .u64 (b : Int), .int .i64 n, .int .i64 h] from HX5.out.drew)
    have HXB := hid (HXA.out.alloc (.cells #[.int .u64 (a : Int), .int .u64 (b : Int), .int .i64 n, .int .i64 h] 87))
    have HN0 := hid (Blk.new w5.drew [.int .u64 (a : Int), .int .u64 (b : Int), .int .i64 n, .int .i64 h] 87)
    have y0 := HX5.out.cellv (i := 0) rfl
    have y1 := HX5.out.cellv (i := 1) rfl
    have y2 := HX5.out.cellv (i := 2) rfl
    have y3 := HX5.out.cellv (i := 3) rfl
    go_region_held3 (fun w' => w'.cell? ⟨w.heap.size, 0, none⟩ = some (.int .u64 (a : Int)) ∧ w'.cell? ⟨w.heap.size, 1, none⟩ = some (.int .u64 (b : Int)) ∧ w'.cell? ⟨w.heap.size, 2, none⟩ = some (.int .i64 n) ∧ w'.cell? ⟨w.heap.size, 3, none⟩ = some (.int .i64 h)) (first | go_keep | (refine ⟨?_, ?_, ?_, ?_⟩ <;> assumption))
        (first
          | (refine step_append_rd (by rfl) (.const (.slice none 0 0)) (.tmp 46) 60 (by rfl) 87 _ 4 32 Try.underlying60 rt_row (by rfl) (by decide) (w.heap.size + 1) _ 0 [] (by rfl) (Owns.nil _ _ _ _) _ (by rfl) ([] : List Rt) (Rd.empty' _ _ _ _ (by rfl) (by unfold maxLen; omega) (fun _ => rfl)) rtEn_length cells_rt (by simp [maxLen]) (by simp) (by simp; omega) ?_
             intro v1 w1 hO1 hC1
             have HB1 := hid (show Below w.heap.size w w1 by first | exact HBA.out.trans (hC1.below HBA.out.size (fun i hi h => by cases h)) | exact HBB.out.trans (hC1.below HBB.out.size (fun i hi h => by cases h)))
             have HX1 := hid (show Blk w1 w.heap.size 87 [.int .u64 (a : Int), .int .u64 (b : Int), .int .i64 n, .int .i64 h] by first | exact HXA.out.chg hC1 (fun h => by cases h) | exact HXB.out.chg hC1 (fun h => by cases h))
             have HO1 := hid hO1
             have HC1 := hid hC1
             have k0 := HX1.out.cellv (i := 0) rfl
             have k1 := HX1.out.cellv (i := 1) rfl
             have k2 := HX1.out.cellv (i := 2) rfl
             have k3 := HX1.out.cellv (i := 3) rfl
             have hs1 := HB1.out.size
             have hx1 := HX1.out.lt
             clear hO1 hC1)
          | (refine step_append_rd (by rfl) (.tmp 47) (.tmp 49) 60 (by rfl) 87 _ 4 32 Try.underlying60 rt_row (by rfl) (by decide) (w.heap.size + 1) _ (0 + ([] : List Rt).length) _ (by rfl) (by first | exact HO1.out | exact HO1.out.below ((Below.refl _ _).alloc (Nat.le_refl _) _)) _ (by rfl) [(((a, b), n), h)] (by first | exact Rd.of_blk (en := rtEn) (l := [(((a, b), n), h)]) (Blk.new w1 [.int .u64 (a : Int), .int .u64 (b : Int), .int .i64 n, .int .i64 h] 87) rtEn_length (by unfold maxLen; simp) | exact Rd.of_blk (en := rtEn) (l := [(((a, b), n), h)]) (HN0.out.chg HC1.out (fun h => by cases h)) rtEn_length (by unfold maxLen; simp)) rtEn_length cells_rt (by unfold maxLen; simp only [List.length_singleton, List.length_nil]; omega) (by simp only [List.length_singleton, List.length_nil]; omega) (by first | (simp; omega) | omega) ?_
             intro v2 w2 hO2 hC2
             have HC2 := hid (show Chg (fun g => v1.ownBlock = some g) w1 w2 by first | exact hC2 | exact (((Chg.refl _ w1).alloc _).trans' hC2))
             have HNE := hid (fun g (h : v1.ownBlock = some g) => (HO1.out.base_le g h).1)
             have HB2 := hid (HB1.out.trans (HC2.out.below HB1.out.size (fun i hi h => by have := HNE.out i h; omega)))
             have HX2 := hid (HX1.out.chg HC2.out (fun h => by have := HNE.out _ h; omega))
             have HO2 := hid hO2
             have k0 := HX2.out.cellv (i := 0) rfl
             have k1 := HX2.out.cellv (i := 1) rfl
             have k2 := HX2.out.cellv (i := 2) rfl
             have k3 := HX2.out.cellv (i := 3) rfl
             have hs2 := HB2.out.size
             have hx2 := HX2.out.lt
             clear hO2 hC2)
          | (refine step_append_rd (by rfl) (.tmp 50) (.tmp 53) 60 (by rfl) 87 _ 4 32 Try.underlying60 rt_row (by rfl) (by decide) (w.heap.size + 1) _ (0 + ([] : List Rt).length + 1) _ (by rfl) HO2.out _ (by rfl) ([] : List Rt) ?_ rtEn_length cells_rt (by simp [maxLen]) (by simp) (by omega) ?_
             · exact Rd.empty' _ _ _ _ (by rfl) (by unfold maxLen; omega) (fun _ => rfl)
             intro v3 w3 hO3 hC3
             have HNE2 := hid (fun g (h : v2.ownBlock = some g) => (HO2.out.base_le g h).1)
             have HB3 := hid (HB2.out.trans (hC3.below HB2.out.size (fun i hi h => by have := HNE2.out i h; omega)))
             have HX3 := hid (HX2.out.chg hC3 (fun h => by have := HNE2.out _ h; omega))
             have HO3 := hid hO3
             have k0 := HX3.out.cellv (i := 0) rfl
             have k1 := HX3.out.cellv (i := 1) rfl
             have k2 := HX3.out.cellv (i := 2) rfl
             have k3 := HX3.out.cellv (i := 3) rfl
             clear hO3 hC3))
    all_goals
      go_wp2_with fail
      go_ret
      refine ⟨_, rfl, ?_, HB3.out⟩
      exact HO3.out.lower (show w.heap.size ≤ w.heap.size + 1 by omega)

set_option maxHeartbeats 1000000 in
theorem ref_into (w : World) (v : Value) (l : List Rt) (hR : Rd rtEn 4 w v l) (hlen : l.length ≤ 100000) (r : Rt) :
    Calls Try.prog 42 #[v, .agg #[.int .u64 (r.1.1.1 : Int), .int .u64 (r.1.1.2 : Int), .int .i64 r.1.2, .int .i64 r.2]] w (RetRts w (intoL l r)) := by
  have hg := guard_pf
  have HRd := hid hR
  have HR := hid fun k x (h : l[k]? = some x) => hR.get rtEn_length (by decide) h
  obtain ⟨A, cap, rfl, n1, m1, _, hnil⟩ := hR
  by_cases hc0 : cap = 0
  · subst hc0
    obtain rfl : l = [] := List.eq_nil_of_length_eq_zero (by omega)
    exact ref_into_nil w A r
  obtain ⟨ad, rfl⟩ : ∃ ad, A = some ad := by
    cases A with
    | none => exact absurd (hnil rfl) hc0
    | some ad => exact ⟨ad, rfl⟩
  unfold maxLen at m1
  clear hnil
  obtain ⟨⟨⟨a, b⟩, n⟩, h⟩ := r
  go_enter Try.func42, Try.ntmps42
  go_wp2_with fail
  go_loopw [5] (fun i wr => IntoRel w (((a, b), n), h) l i wr) (fun i _ => l.length - (intOf i).toNat)
  case atStart => exact ⟨0, Nat.zero_le _, rfl, fun j x hj => by omega, Blk.new_at w #[.int .u64 (a : Int), .int .u64 (b : Int), .int .i64 n, .int .i64 h] 87 _ rfl, (Below.refl _ _).alloc (Nat.le_refl _) _⟩
  case round =>
    obtain ⟨k, hk, rfl, hlow, hX, hB⟩ := hrel
    have x0 := hX.cellv (i := 0) rfl
    have x1 := hX.cellv (i := 1) rfl
    have x2 := hX.cellv (i := 2) rfl
    have HLO := hid hlow
    have HX := hid hX
    have HB := hid hB
    by_cases hlt : k < l.length
    · have g1 : l[k]? = some l[k] := List.getElem?_eq_getElem hlt
      generalize l[k] = x at g1
      obtain ⟨ba, oa, ca, ha, _, _, la, sa⟩ := HR.out k x g1
      injection ha with ha hx1 hc1
      injection ha with ha
      subst ha hc1
      clear hx1
      have u0 : wr.cell? ⟨ba, oa + k * 4, none⟩ = some (.int .u64 (x.1.1.1 : Int)) := (hB.cell (p := ⟨ba, oa + k * 4, none⟩) la).trans (sa 0 _ rfl)
      have u1 : wr.cell? ⟨ba, oa + k * 4 + 1, none⟩ = some (.int .u64 (x.1.1.2 : Int)) := (hB.cell (p := ⟨ba, oa + k * 4 + 1, none⟩) la).trans (sa 1 _ rfl)
      have u2 : wr.cell? ⟨ba, oa + k * 4 + 2, none⟩ = some (.int .i64 x.1.2) := (hB.cell (p := ⟨ba, oa + k * 4 + 2, none⟩) la).trans (sa 2 _ rfl)
      have lar : ba < wr.heap.size := Nat.lt_of_lt_of_le la hB.size
      obtain ⟨lb, hlb⟩ : ∃ lb : Bool, lb = decide (x.1.lt ((a, b), n)) := ⟨_, rfl⟩
      have cl := hid fun w => ref_less x.1 ((a, b), n) lb hlb w
      have HLB := hid hlb
      have G1 := hid g1
      clear g1 sa hlow hX hB hlb
      obtain ⟨⟨⟨xa, xb⟩, xn⟩, xh⟩ := x
      go_wp2_with fail
      refine wp_region_later (fun w' => w'.cell? ⟨w.heap.size, 0, none⟩ = some (.int .u64 (a : Int)) ∧ w'.cell? ⟨w.heap.size, 1, none⟩ = some (.int .u64 (b : Int)) ∧ w'.cell? ⟨w.heap.size, 2, none⟩ = some (.int .i64 n) ∧
          w'.cell? ⟨ba, oa + k * 4, none⟩ = some (.int .u64 (xa : Int)) ∧ w'.cell? ⟨ba, oa + k * 4 + 1, none⟩ = some (.int .u64 (xb : Int)) ∧ w'.cell? ⟨ba, oa + k * 4 + 2, none⟩ = some (.int .i64 xn))
        (fun x => ⟨x.cell x0, x.cell x1, x.cell x2, x.cell u0, x.cell u1, x.cell u2⟩) (by kernel_rfl) (by kernel_rfl) (fun HS => ?_)
      repeat (go_big_quiet_step (with_reducible exact Later.calls _ (cl.out _)))
      refine wpQuiet_nil ?_
      rintro w4 ⟨⟨_, hb4⟩, rfl⟩
      have HX4 := hid (HX.out.below' hb4)
      have HB4 := hid (held_next HB.out hb4)
      have x0 := HX4.out.cellv (i := 0) rfl
      have x1 := HX4.out.cellv (i := 1) rfl
      have x2 := HX4.out.cellv (i := 2) rfl
      have x3 := HX4.out.cellv (i := 3) rfl
      have u0 := (hb4.cell (p := ⟨ba, oa + k * 4, none⟩) lar).trans u0
      have u1 := (hb4.cell (p := ⟨ba, oa + k * 4 + 1, none⟩) lar).trans u1
      have u2 := (hb4.cell (p := ⟨ba, oa + k * 4 + 2, none⟩) lar).trans u2
      clear HS hb4 HX HB
      cases lb
      · by_cases he : (((xa, xb), xn) : Pf) = ((a, b), n)
        · have hbe := pf_beq ((xa, xb), xn) ((a, b), n)
          rw [decide_eq_true he] at hbe
          have HE := hid he
          clear he
          go_wp2_with fail
          go_quiet (fail)
          go_wp2_with (at_builtin; refine wpList_append_rd rfl (.const (.slice none 0 0)) _ 60 rfl 87 _ 4 32 Try.underlying60 rt_row rfl (by decide) (w.heap.size + 1) _ 0 [] rfl (Owns.nil _ _ _ _) _ rfl l (HRd.out.below rtEn_length (HB4.out.drewN _)) rtEn_length cells_rt ?c1 ?c2 ?c3 ?_)
          case c1 => unfold maxLen; omega
          case c2 => omega
          case c3 => have := HX4.out.lt; simp; omega
          intro v1 w6 hO6 hC6
          have HB6 := hid ((HB4.out.drewN nq).trans (hC6.below (by have := HB4.out.size; simp; omega) (fun i hi h => by cases h)))
          have HX6 := hid ((HX4.out.drewN nq).chg hC6 (fun h => by cases h))
          obtain ⟨A6, cap6, rfl, _, _, hf6⟩ := hO6.form
          obtain ⟨g6, rfl, hg6, hg6l, hcell6⟩ := hf6 (by omega)
          have HFS := hid (flat_set (en := rtEn) rtEn_length l k (((a, b), n), h) hlt)
          have HO6 := hid hO6
          have hflen := flat_len (en := rtEn) rtEn_length l
          have z0 := hcell6 (k * 4) (by omega)
          have z1 := hcell6 (k * 4 + 1) (by omega)
          have z2 := hcell6 (k * 4 + 2) (by omega)
          have z3 := hcell6 (k * 4 + 3) (by omega)
          have e0 := flat_get (en := rtEn) rtEn_length l k _ G1.out 0 (by decide)
          have e1 := flat_get (en := rtEn) rtEn_length l k _ G1.out 1 (by decide)
          have e2 := flat_get (en := rtEn) rtEn_length l k _ G1.out 2 (by decide)
          have e3 := flat_get (en := rtEn) rtEn_length l k _ G1.out 3 (by decide)
          rw [Nat.add_zero] at e0
          rw [e0] at z0
          rw [e1] at z1
          rw [e2] at z2
          rw [e3] at z3
          simp only [rtEn, List.getElem?_cons_zero, List.getElem?_cons_succ] at z0 z1 z2 z3
          have zf := hO6.cells.2.2
          have f0 := zf (k * 4)
          have f1 := zf (k * 4 + 1)
          have f2 := zf (k * 4 + 2)
          have f3 := zf (k * 4 + 3)
          have y0 := HX6.out.cellv (i := 0) rfl
          have y1 := HX6.out.cellv (i := 1) rfl
          have y2 := HX6.out.cellv (i := 2) rfl
          have y3 := HX6.out.cellv (i := 3) rfl
          have hne6 : g6 ≠ w.heap.size := by omega
          have HFL := hid hflen
          have HSET := hid ((into_at (r := (((a, b), n), h)) (l := l) (k := k) (by omega) HLO.out (fun z hz => by have h1 := G1.out; rw [hz] at h1; injection h1 with h1; subst h1; exact of_decide_eq_false HLB.out.symm)).2 _ G1.out HE.out)
          clear hf6 hcell6 hO6 hC6 zf e0 e1 e2 e3 hflen x0 x1 x2 x3 u0 u1 u2
          go_wp2_with fail
          go_ret
          refine ⟨_, rfl, ?_, ?_⟩
          · unfold OwnRts
            rw [HSET.out, List.length_set]
            have h1 := (((((HO6.out.lower (show w.heap.size ≤ w.heap.size + 1 by omega)).store (k * 4) (.int .u64 (a : Int))).store (k * 4 + 1) (.int .u64 (b : Int))).store (k * 4 + 2) (.int .i64 n)).store (k * 4 + 3) (.int .i64 h))
            rw [set4 _ _ _ _ (k * 4) _ (by have := HFL.out; omega)] at h1
            have e := HFS.out
            unfold rtsV
            rw [e]
            exact h1
          · exact (((HB6.out.setCell (by simp; omega) _).setCell (by simp; omega) _).setCell (by simp; omega) _).setCell (by simp; omega) _
        · have hbe := pf_beq ((xa, xb), xn) ((a, b), n)
          rw [decide_eq_false he] at hbe
          have HE := hid he
          clear he
          go_wp2_with fail
          go_quiet (fail)
          go_wp2_with fail
          refine gen_w (fun w5 hw5 => ?_)
          have HB5 := hid (show Below w.heap.size w w5 by rw [hw5]; exact HB4.out.drewN _)
          have HX5 := hid (show Blk w5 w.heap.size 87 [.int .u64 (a : Int), .int .u64 (b : Int), .int .i64 n, .int .i64 h] by rw [hw5]; exact HX4.out.drewN _)
          clear hw5
          have hs5 := HB5.out.size
          have hx5 := HX5.out.lt
          have HBA := hid (show Below w.heap.size w w5.drew from HB5.out.drew)
          have HBB := hid (show Below w.heap.size w (w5.drew.alloc (.cells #[.int .u64 (a : Int), .int .u64 (b : Int), .int .i64 n, .int .i64 h] 87)) from HB5.out.drew.alloc hs5 _)
          have HXA := hid (show Blk w5.drew w.heap.size 87 [.int .u64 (a : Int), .int .u64 (b : Int), .int .i64 n, .int .i64 h] from HX5.out.drew)
          have HXB := hid (HXA.out.alloc (.cells #[.int .u64 (a : Int), .int .u64 (b : Int), .int .i64 n, .int .i64 h] 87))
          have HN0 := hid (Blk.new w5.drew [.int .u64 (a : Int), .int .u64 (b : Int), .int .i64 n, .int .i64 h] 87)
          have y0 := HX5.out.cellv (i := 0) rfl
          have y1 := HX5.out.cellv (i := 1) rfl
          have y2 := HX5.out.cellv (i := 2) rfl
          have y3 := HX5.out.cellv (i := 3) rfl
          have hk0 : (0 : Int) ≤ (k : Int) := by omega
          have hkn : (k : Int) ≤ (l.length : Int) := by omega
          have hkc : (k : Int) ≤ (cap : Int) := by omega
          have hnc : (l.length : Int) ≤ (cap : Int) := by omega
          have HTL := hid (show (l.take k).length = k by rw [List.length_take]; omega)
          have HDL := hid (show (l.drop k).length = l.length - k from List.length_drop)
          have HTK := hid (Rd.takeS HRd.out k (by omega))
          have HDR := hid (Rd.dropS HRd.out k (by omega))
          have hcapk : ¬ cap = k := by omega
          have HINS := hid ((into_at (r := (((a, b), n), h)) (l := l) (k := k) (by omega) HLO.out (fun z hz => by have h1 := G1.out; rw [hz] at h1; injection h1 with h1; subst h1; exact of_decide_eq_false HLB.out.symm)).1 (fun z hz => by have h1 := G1.out; rw [hz] at h1; injection h1 with h1; subst h1; exact HE.out))
          go_region_held3 (fun w' => w'.cell? ⟨w.heap.size, 0, none⟩ = some (.int .u64 (a : Int)) ∧ w'.cell? ⟨w.heap.size, 1, none⟩ = some (.int .u64 (b : Int)) ∧ w'.cell? ⟨w.heap.size, 2, none⟩ = some (.int .i64 n) ∧ w'.cell? ⟨w.heap.size, 3, none⟩ = some (.int .i64 h)) (first | go_keep | (refine ⟨?_, ?_, ?_, ?_⟩ <;> assumption))
            (first
              | (refine step_append_rd (by rfl) (.const (.slice none 0 0)) (.tmp 46) 60 (by rfl) 87 _ 4 32 Try.underlying60 rt_row (by rfl) (by decide) (w.heap.size + 1) _ 0 [] (by rfl) (Owns.nil _ _ _ _) _ (by rfl) (l.take k) (HTK.out.below rtEn_length (by first | exact HBA.out | exact HBB.out)) rtEn_length cells_rt (by have h1 := HTL.out; unfold maxLen; omega) (by have h1 := HTL.out; omega) (by simp; omega) ?_
                 intro v1 w1 hO1 hC1
                 have HB1 := hid (show Below w.heap.size w w1 by first | exact HBA.out.trans (hC1.below HBA.out.size (fun i hi h => by cases h)) | exact HBB.out.trans (hC1.below HBB.out.size (fun i hi h => by cases h)))
                 have HX1 := hid (show Blk w1 w.heap.size 87 [.int .u64 (a : Int), .int .u64 (b : Int), .int .i64 n, .int .i64 h] by first | exact HXA.out.chg hC1 (fun h => by cases h) | exact HXB.out.chg hC1 (fun h => by cases h))
                 have HO1 := hid hO1
                 have HC1 := hid hC1
                 have k0 := HX1.out.cellv (i := 0) rfl
                 have k1 := HX1.out.cellv (i := 1) rfl
                 have k2 := HX1.out.cellv (i := 2) rfl
                 have k3 := HX1.out.cellv (i := 3) rfl
                 have hs1 := HB1.out.size
                 have hx1 := HX1.out.lt
                 clear hO1 hC1)
              | (refine step_append_rd (by rfl) (.tmp 47) (.tmp 49) 60 (by rfl) 87 _ 4 32 Try.underlying60 rt_row (by rfl) (by decide) (w.heap.size + 1) _ (0 + (l.take k).length) _ (by rfl) (by first | exact HO1.out | exact HO1.out.below ((Below.refl _ _).alloc (Nat.le_refl _) _)) _ (by rfl) [(((a, b), n), h)] (by first | exact Rd.of_blk (en := rtEn) (l := [(((a, b), n), h)]) (Blk.new w1 [.int .u64 (a : Int), .int .u64 (b : Int), .int .i64 n, .int .i64 h] 87) rtEn_length (by unfold maxLen; simp) | exact Rd.of_blk (en := rtEn) (l := [(((a, b), n), h)]) (HN0.out.chg HC1.out (fun h => by cases h)) rtEn_length (by unfold maxLen; simp)) rtEn_length cells_rt (by have h1 := HTL.out; unfold maxLen; simp only [List.length_singleton]; omega) (by have h1 := HTL.out; simp only [List.length_singleton]; omega) (by first | (simp; omega) | omega) ?_
                 intro v2 w2 hO2 hC2
                 have HC2 := hid (show Chg (fun g => v1.ownBlock = some g) w1 w2 by first | exact hC2 | exact (((Chg.refl _ w1).alloc _).trans' hC2))
                 have HNE := hid (fun g (h : v1.ownBlock = some g) => (HO1.out.base_le g h).1)
                 have HB2 := hid (HB1.out.trans (HC2.out.below HB1.out.size (fun i hi h => by have := HNE.out i h; omega)))
                 have HX2 := hid (HX1.out.chg HC2.out (fun h => by have := HNE.out _ h; omega))
                 have HO2 := hid hO2
                 have k0 := HX2.out.cellv (i := 0) rfl
                 have k1 := HX2.out.cellv (i := 1) rfl
                 have k2 := HX2.out.cellv (i := 2) rfl
                 have k3 := HX2.out.cellv (i := 3) rfl
                 have hs2 := HB2.out.size
                 have hx2 := HX2.out.lt
                 clear hO2 hC2)
              | (refine step_append_rd (by rfl) (.tmp 50) (.tmp 53) 60 (by rfl) 87 _ 4 32 Try.underlying60 rt_row (by rfl) (by decide) (w.heap.size + 1) _ (0 + (l.take k).length + 1) _ (by rfl) HO2.out _ (by rfl) (l.drop k) (HDR.out.below rtEn_length HB2.out) rtEn_length cells_rt (by have h1 := HTL.out; have h2 := HDL.out; unfold maxLen; omega) (by have h1 := HTL.out; have h2 := HDL.out; omega) (by omega) ?_
                 intro v3 w3 hO3 hC3
                 have HNE2 := hid (fun g (h : v2.ownBlock = some g) => (HO2.out.base_le g h).1)
                 have HB3 := hid (HB2.out.trans (hC3.below HB2.out.size (fun i hi h => by have := HNE2.out i h; omega)))
                 have HX3 := hid (HX2.out.chg hC3 (fun h => by have := HNE2.out _ h; omega))
                 have HO3 := hid hO3
                 have k0 := HX3.out.cellv (i := 0) rfl
                 have k1 := HX3.out.cellv (i := 1) rfl
                 have k2 := HX3.out.cellv (i := 2) rfl
                 have k3 := HX3.out.cellv (i := 3) rfl
                 clear hO3 hC3))
          all_goals
            go_wp2_with fail
            go_ret
            refine ⟨_, rfl, ?_, HB3.out⟩
            have h1 := HO3.out.lower (show w.heap.size ≤ w.heap.size + 1 by omega)
            rw [show intoL l (((a, b), n), h) = l.take k ++ ((((a, b), n), h) :: l.drop k) from HINS.out]
            unfold OwnRts
            have e1 : (l.take k ++ ((((a, b), n), h) :: l.drop k)).length = 0 + (l.take k).length + 1 + (l.drop k).length := by simp; omega
            have e2 : rtsV (l.take k ++ ((((a, b), n), h) :: l.drop k)) = [] ++ (l.take k).flatMap rtEn ++ [(((a, b), n), h)].flatMap rtEn ++ (l.drop k).flatMap rtEn := by simp [rtsV]
            rw [e1, e2]
            exact h1
      · go_wp2_with fail
        go_roundw
        case rel =>
          refine ⟨k + 1, by omega, by go_num, fun j z hj hz => ?_, HX4.out, HB4.out⟩
          by_cases e : j = k
          · subst e
            have h1 := G1.out
            rw [hz] at h1
            injection h1 with h1
            subst h1
            exact of_decide_eq_true HLB.out.symm
          · exact HLO.out j z (by omega) hz
        case measure => simp [intOf]; omega
    · clear hX hB
      go_wp2_with fail
      go_quiet (fail)
      go_wp2_with fail
      go_quiet (fail)
      go_wp2_with fail
      refine gen_w (fun w5 hw5 => ?_)
      have HB5 := hid (show Below w.heap.size w w5 by rw [hw5]; exact (HB.out.drewN _).drewN _)
      have HX5 := hid (show Blk w5 w.heap.size 87 [.int .u64 (a : Int), .int .u64 (b : Int), .int .i64 n, .int .i64 h] by rw [hw5]; exact (HX.out.drewN _).drewN _)
      clear hw5
      have hs5 := HB5.out.size
      have hx5 := HX5.out.lt
      have HBA := hid (show Below w.heap.size w w5.drew from HB5.out.drew)
      have HBB := hid (show Below w.heap.size w (w5.drew.alloc (.cells #[.int .u64 (a : Int), .int .u64 (b : Int), .int .i64 n, .int .i64 h] 87)) from HB5.out.drew.alloc hs5 _)
      have HXA := hid (show Blk w5.drew w.heap.size 87 [.int .u64 (a : Int), .int .u64 (b : Int), .int .i64 n, .int .i64 h] from HX5.out.drew)
      have HXB := hid (HXA.out.alloc (.cells #[.int .u64 (a : Int), .int .u64 (b : Int), .int .i64 n, .int .i64 h] 87))
      have HN0 := hid (Blk.new w5.drew [.int .u64 (a : Int), .int .u64 (b : Int), .int .i64 n, .int .i64 h] 87)
      have y0 := HX5.out.cellv (i := 0) rfl
      have y1 := HX5.out.cellv (i := 1) rfl
      have y2 := HX5.out.cellv (i := 2) rfl
      have y3 := HX5.out.cellv (i := 3) rfl
      have hk0 : (0 : Int) ≤ (k : Int) := by omega
      have hkn : (k : Int) ≤ (l.length : Int) := by omega
      have hkc : (k : Int) ≤ (cap : Int) := by omega
      have hnc : (l.length : Int) ≤ (cap : Int) := by omega
      have HTL := hid (show (l.take k).length = k by rw [List.length_take]; omega)
      have HDL := hid (show (l.drop k).length = l.length - k from List.length_drop)
      have HD0 := hid (show l.drop k = [] from List.drop_eq_nil_of_le (by omega))
      have HTK := hid (Rd.takeS HRd.out k (by omega))
      have HINS := hid ((into_at (r := (((a, b), n), h)) (l := l) (k := k) (by omega) HLO.out (fun z hz => by rw [List.getElem?_eq_none (by omega)] at hz; cases hz)).1 (fun z hz => by rw [List.getElem?_eq_none (by omega)] at hz; cases hz))
      have hck' : k = cap ∨ ¬ cap = k := by omega
      rcases hck' with hck | hck
      · subst hck
        go_region_held3 (fun w' => w'.cell? ⟨w.heap.size, 0, none⟩ = some (.int .u64 (a : Int)) ∧ w'.cell? ⟨w.heap.size, 1, none⟩ = some (.int .u64 (b : Int)) ∧ w'.cell? ⟨w.heap.size, 2, none⟩ = some (.int .i64 n) ∧ w'.cell? ⟨w.heap.size, 3, none⟩ = some (.int .i64 h)) (first | go_keep | (refine ⟨?_, ?_, ?_, ?_⟩ <;> assumption))
          (first
            | (refine step_append_rd (by rfl) (.const (.slice none 0 0)) (.tmp 46) 60 (by rfl) 87 _ 4 32 Try.underlying60 rt_row (by rfl) (by decide) (w.heap.size + 1) _ 0 [] (by rfl) (Owns.nil _ _ _ _) _ (by rfl) (l.take k) (HTK.out.below rtEn_length (by first | exact HBA.out | exact HBB.out)) rtEn_length cells_rt (by have h1 := HTL.out; unfold maxLen; omega) (by have h1 := HTL.out; omega) (by simp; omega) ?_
               intro v1 w1 hO1 hC1
               have HB1 := hid (show Below w.heap.size w w1 by first | exact HBA.out.trans (hC1.below HBA.out.size (fun i hi h => by cases h)) | exact HBB.out.trans (hC1.below HBB.out.size (fun i hi h => by cases h)))
               have HX1 := hid (show Blk w1 w.heap.size 87 [.int .u64 (a : Int), .int .u64 (b : Int), .int .i64 n, .int .i64 h] by first | exact HXA.out.chg hC1 (fun h => by cases h) | exact HXB.out.chg hC1 (fun h => by cases h))
               have HO1 := hid hO1
               have HC1 := hid hC1
               have k0 := HX1.out.cellv (i := 0) rfl
               have k1 := HX1.out.cellv (i := 1) rfl
               have k2 := HX1.out.cellv (i := 2) rfl
               have k3 := HX1.out.cellv (i := 3) rfl
               have hs1 := HB1.out.size
               have hx1 := HX1.out.lt
               clear hO1 hC1)
            | (refine step_append_rd (by rfl) (.tmp 47) (.tmp 49) 60 (by rfl) 87 _ 4 32 Try.underlying60 rt_row (by rfl) (by decide) (w.heap.size + 1) _ (0 + (l.take k).length) _ (by rfl) (by first | exact HO1.out | exact HO1.out.below ((Below.refl _ _).alloc (Nat.le_refl _) _)) _ (by rfl) [(((a, b), n), h)] (by first | exact Rd.of_blk (en := rtEn) (l := [(((a, b), n), h)]) (Blk.new w1 [.int .u64 (a : Int), .int .u64 (b : Int), .int .i64 n, .int .i64 h] 87) rtEn_length (by unfold maxLen; simp) | exact Rd.of_blk (en := rtEn) (l := [(((a, b), n), h)]) (HN0.out.chg HC1.out (fun h => by cases h)) rtEn_length (by unfold maxLen; simp)) rtEn_length cells_rt (by have h1 := HTL.out; unfold maxLen; simp only [List.length_singleton]; omega) (by have h1 := HTL.out; simp only [List.length_singleton]; omega) (by first | (simp; omega) | omega) ?_
               intro v2 w2 hO2 hC2
               have HC2 := hid (show Chg (fun g => v1.ownBlock = some g) w1 w2 by first | exact hC2 | exact (((Chg.refl _ w1).alloc _).trans' hC2))
               have HNE := hid (fun g (h : v1.ownBlock = some g) => (HO1.out.base_le g h).1)
               have HB2 := hid (HB1.out.trans (HC2.out.below HB1.out.size (fun i hi h => by have := HNE.out i h; omega)))
               have HX2 := hid (HX1.out.chg HC2.out (fun h => by have := HNE.out _ h; omega))
               have HO2 := hid hO2
               have k0 := HX2.out.cellv (i := 0) rfl
               have k1 := HX2.out.cellv (i := 1) rfl
               have k2 := HX2.out.cellv (i := 2) rfl
               have k3 := HX2.out.cellv (i := 3) rfl
               have hs2 := HB2.out.size
               have hx2 := HX2.out.lt
               clear hO2 hC2)
            | (refine step_append_rd (by rfl) (.tmp 50) (.tmp 53) 60 (by rfl) 87 _ 4 32 Try.underlying60 rt_row (by rfl) (by decide) (w.heap.size + 1) _ (0 + (l.take k).length + 1) _ (by rfl) HO2.out _ (by rfl) (l.drop k) ?_ rtEn_length cells_rt (by have h1 := HTL.out; have h2 := HDL.out; unfold maxLen; omega) (by have h1 := HTL.out; have h2 := HDL.out; omega) (by omega) ?_
               · rw [HD0.out]; exact Rd.empty' _ _ _ _ (by omega) (by unfold maxLen; omega) (by first | (intro h; cases h; done) | (intro h; rfl) | (intro h; omega))
               intro v3 w3 hO3 hC3
               have HNE2 := hid (fun g (h : v2.ownBlock = some g) => (HO2.out.base_le g h).1)
               have HB3 := hid (HB2.out.trans (hC3.below HB2.out.size (fun i hi h => by have := HNE2.out i h; omega)))
               have HX3 := hid (HX2.out.chg hC3 (fun h => by have := HNE2.out _ h; omega))
               have HO3 := hid hO3
               have k0 := HX3.out.cellv (i := 0) rfl
               have k1 := HX3.out.cellv (i := 1) rfl
               have k2 := HX3.out.cellv (i := 2) rfl
               have k3 := HX3.out.cellv (i := 3) rfl
               clear hO3 hC3))
        all_goals
          go_wp2_with fail
          go_ret
          refine ⟨_, rfl, ?_, HB3.out⟩
          have h1 := HO3.out.lower (show w.heap.size ≤ w.heap.size + 1 by omega)
          rw [show intoL l (((a, b), n), h) = l.take k ++ ((((a, b), n), h) :: l.drop k) from HINS.out]
          unfold OwnRts
          have e1 : (l.take k ++ ((((a, b), n), h) :: l.drop k)).length = 0 + (l.take k).length + 1 + (l.drop k).length := by simp; omega
          have e2 : rtsV (l.take k ++ ((((a, b), n), h) :: l.drop k)) = [] ++ (l.take k).flatMap rtEn ++ [(((a, b), n), h)].flatMap rtEn ++ (l.drop k).flatMap rtEn := by simp [rtsV]
          rw [e1, e2]
          exact h1
      · go_region_held3 (fun w' => w'.cell? ⟨w.heap.size, 0, none⟩ = some (.int .u64 (a : Int)) ∧ w'.cell? ⟨w.heap.size, 1, none⟩ = some (.int .u64 (b : Int)) ∧ w'.cell? ⟨w.heap.size, 2, none⟩ = some (.int .i64 n) ∧ w'.cell? ⟨w.heap.size, 3, none⟩ = some (.int .i64 h)) (first | go_keep | (refine ⟨?_, ?_, ?_, ?_⟩ <;> assumption))
          (first
            | (refine step_append_rd (by rfl) (.const (.slice none 0 0)) (.tmp 46) 60 (by rfl) 87 _ 4 32 Try.underlying60 rt_row (by rfl) (by decide) (w.heap.size + 1) _ 0 [] (by rfl) (Owns.nil _ _ _ _) _ (by rfl) (l.take k) (HTK.out.below rtEn_length (by first | exact HBA.out | exact HBB.out)) rtEn_length cells_rt (by have h1 := HTL.out; unfold maxLen; omega) (by have h1 := HTL.out; omega) (by simp; omega) ?_
               intro v1 w1 hO1 hC1
               have HB1 := hid (show Below w.heap.size w w1 by first | exact HBA.out.trans (hC1.below HBA.out.size (fun i hi h => by cases h)) | exact HBB.out.trans (hC1.below HBB.out.size (fun i hi h => by cases h)))
               have HX1 := hid (show Blk w1 w.heap.size 87 [.int .u64 (a : Int), .int .u64 (b : Int), .int .i64 n, .int .i64 h] by first | exact HXA.out.chg hC1 (fun h => by cases h) | exact HXB.out.chg hC1 (fun h => by cases h))
               have HO1 := hid hO1
               have HC1 := hid hC1
               have k0 := HX1.out.cellv (i := 0) rfl
               have k1 := HX1.out.cellv (i := 1) rfl
               have k2 := HX1.out.cellv (i := 2) rfl
               have k3 := HX1.out.cellv (i := 3) rfl
               have hs1 := HB1.out.size
               have hx1 := HX1.out.lt
               clear hO1 hC1)
            | (refine step_append_rd (by rfl) (.tmp 47) (.tmp 49) 60 (by rfl) 87 _ 4 32 Try.underlying60 rt_row (by rfl) (by decide) (w.heap.size + 1) _ (0 + (l.take k).length) _ (by rfl) (by first | exact HO1.out | exact HO1.out.below ((Below.refl _ _).alloc (Nat.le_refl _) _)) _ (by rfl) [(((a, b), n), h)] (by first | exact Rd.of_blk (en := rtEn) (l := [(((a, b), n), h)]) (Blk.new w1 [.int .u64 (a : Int), .int .u64 (b : Int), .int .i64 n, .int .i64 h] 87) rtEn_length (by unfold maxLen; simp) | exact Rd.of_blk (en := rtEn) (l := [(((a, b), n), h)]) (HN0.out.chg HC1.out (fun h => by cases h)) rtEn_length (by unfold maxLen; simp)) rtEn_length cells_rt (by have h1 := HTL.out; unfold maxLen; simp only [List.length_singleton]; omega) (by have h1 := HTL.out; simp only [List.length_singleton]; omega) (by first | (simp; omega) | omega) ?_
               intro v2 w2 hO2 hC2
               have HC2 := hid (show Chg (fun g => v1.ownBlock = some g) w1 w2 by first | exact hC2 | exact (((Chg.refl _ w1).alloc _).trans' hC2))
               have HNE := hid (fun g (h : v1.ownBlock = some g) => (HO1.out.base_le g h).1)
               have HB2 := hid (HB1.out.trans (HC2.out.below HB1.out.size (fun i hi h => by have := HNE.out i h; omega)))
               have HX2 := hid (HX1.out.chg HC2.out (fun h => by have := HNE.out _ h; omega))
               have HO2 := hid hO2
               have k0 := HX2.out.cellv (i := 0) rfl
               have k1 := HX2.out.cellv (i := 1) rfl
               have k2 := HX2.out.cellv (i := 2) rfl
               have k3 := HX2.out.cellv (i := 3) rfl
               have hs2 := HB2.out.size
               have hx2 := HX2.out.lt
               clear hO2 hC2)
            | (refine step_append_rd (by rfl) (.tmp 50) (.tmp 53) 60 (by rfl) 87 _ 4 32 Try.underlying60 rt_row (by rfl) (by decide) (w.heap.size + 1) _ (0 + (l.take k).length + 1) _ (by rfl) HO2.out _ (by rfl) (l.drop k) ?_ rtEn_length cells_rt (by have h1 := HTL.out; have h2 := HDL.out; unfold maxLen; omega) (by have h1 := HTL.out; have h2 := HDL.out; omega) (by omega) ?_
               · rw [HD0.out]; exact Rd.empty' _ _ _ _ (by omega) (by unfold maxLen; omega) (by first | (intro h; cases h; done) | (intro h; rfl) | (intro h; omega))
               intro v3 w3 hO3 hC3
               have HNE2 := hid (fun g (h : v2.ownBlock = some g) => (HO2.out.base_le g h).1)
               have HB3 := hid (HB2.out.trans (hC3.below HB2.out.size (fun i hi h => by have := HNE2.out i h; omega)))
               have HX3 := hid (HX2.out.chg hC3 (fun h => by have := HNE2.out _ h; omega))
               have HO3 := hid hO3
               have k0 := HX3.out.cellv (i := 0) rfl
               have k1 := HX3.out.cellv (i := 1) rfl
               have k2 := HX3.out.cellv (i := 2) rfl
               have k3 := HX3.out.cellv (i := 3) rfl
               clear hO3 hC3))
        all_goals
          go_wp2_with fail
          go_ret
          refine ⟨_, rfl, ?_, HB3.out⟩
          have h1 := HO3.out.lower (show w.heap.size ≤ w.heap.size + 1 by omega)
          rw [show intoL l (((a, b), n), h) = l.take k ++ ((((a, b), n), h) :: l.drop k) from HINS.out]
          unfold OwnRts
          have e1 : (l.take k ++ ((((a, b), n), h) :: l.drop k)).length = 0 + (l.take k).length + 1 + (l.drop k).length := by simp; omega
          have e2 : rtsV (l.take k ++ ((((a, b), n), h) :: l.drop k)) = [] ++ (l.take k).flatMap rtEn ++ [(((a, b), n), h)].flatMap rtEn ++ (l.drop k).flatMap rtEn := by simp [rtsV]
          rw [e1, e2]
          exact h1

end Go.Proofs.Ytcnecjjgnnkjkaa
