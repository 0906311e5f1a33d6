/-
  Contracts of the reference's functions for chapter 1: bits of addresses, prefixes. No condition but that the words are words.
-/
import Derived.Test.YtpjjijhojcfmnaaAddr
import Derived.Test.YtpjjijhojcfmnaaAddrOrder
namespace Go.Proofs.Ytpjjijhojcfmnaa
open Go.RowKit
set_option linter.unusedVariables false
set_option linter.unusedSimpArgs false
set_option maxRecDepth 100000
attribute [local go_sem high] eq_ad eq_pf

/-- An address with one bit on. -/
def Ad.with (a : Ad) (i : Nat) : Ad := if i < 64 then (a.1 ||| 2 ^ (63 - i), a.2) else (a.1, a.2 ||| 2 ^ (127 - i))
theorem Ad.with_ok {a : Ad} (h : a.ok) (i : Nat) : (a.with i).ok := by
  unfold Ad.with; split
  · exact ⟨Nat.or_lt_two_pow h.1 (Nat.pow_lt_pow_right (by decide) (by omega)), h.2⟩
  · exact ⟨h.1, Nat.or_lt_two_pow h.2 (Nat.pow_lt_pow_right (by decide) (by omega))⟩
theorem word_or (x k j : Nat) : (x ||| 2 ^ k) / 2 ^ j % 2 = if j = k then 1 else x / 2 ^ j % 2 := by
  have e : ∀ y, y / 2 ^ j % 2 = (y.testBit j).toNat := fun y => by
    rw [Nat.testBit_eq_decide_div_mod_eq]; rcases Nat.mod_two_eq_zero_or_one (y / 2 ^ j) with h | h <;> simp [h]
  rw [e, e, Nat.testBit_or, Nat.testBit_two_pow]
  by_cases h : j = k
  · subst h; simp
  · rw [if_neg h]; have : ¬ k = j := fun e => h e.symm
    simp [this]
theorem Ad.bit_with (a : Ad) (i j : Nat) (hi : i < 128) (hj : j < 128) : (a.with i).bit j = if j = i then 1 else a.bit j := by
  unfold Ad.with
  by_cases h1 : i < 64
  · rw [if_pos h1]; unfold Ad.bit
    by_cases h2 : j < 64
    · simp only [if_pos h2]; rw [word_or]
      by_cases h : j = i
      · rw [if_pos h, if_pos (by omega)]
      · rw [if_neg h, if_neg (by omega)]
    · have hne : ¬ j = i := by omega
      simp only [if_neg h2, if_pos hj, if_neg hne]
  · rw [if_neg h1]; unfold Ad.bit
    by_cases h2 : j < 64
    · have hne : ¬ j = i := by omega
      simp only [if_pos h2, if_neg hne]
    · simp only [if_neg h2, if_pos hj]; rw [word_or]
      by_cases h : j = i
      · rw [if_pos h, if_pos (by omega)]
      · rw [if_neg h, if_neg (by omega)]
theorem cut_next (a : Ad) (ha : a.ok) (k : Nat) (hk : k < 128) : a.cut (k + 1) = if a.bit k = 1 then (a.cut k).with k else a.cut k := by
  have hb := Ad.bit_le a k
  split
  · rename_i h
    apply Ad.ext_bits (Ad.cut_ok ha _) (Ad.with_ok (Ad.cut_ok ha _) _)
    intro i hi
    rw [Ad.bit_cut ha _ _ (by omega) hi, Ad.bit_with _ _ _ hk hi, Ad.bit_cut ha _ _ (by omega) hi]
    by_cases e : i = k
    · subst e; rw [if_pos (by omega), if_pos rfl, h]
    · rw [if_neg e]; by_cases e2 : i < k
      · rw [if_pos (by omega), if_pos e2]
      · rw [if_neg (by omega), if_neg e2]
  · rename_i h
    apply Ad.ext_bits (Ad.cut_ok ha _) (Ad.cut_ok ha _)
    intro i hi
    rw [Ad.bit_cut ha _ _ (by omega) hi, Ad.bit_cut ha _ _ (by omega) hi]
    by_cases e : i = k
    · subst e; rw [if_pos (by omega), if_neg (by omega)]; omega
    · by_cases e2 : i < k
      · rw [if_pos (by omega), if_pos e2]
      · rw [if_neg (by omega), if_neg e2]
theorem cut_none {a : Ad} (ha : a.ok) : a.cut 0 = (0, 0) := by
  unfold Ad.cut; rw [Nat.zero_min, cutW_zero ha.1, Nat.zero_sub, cutW_zero ha.2]

theorem ref_cap (n l h : Int) (w : World) : Calls Try.prog 81 #[.int .i64 n, .int .i64 l, .int .i64 h] w fun e w' => e = .returned (.int .i64 (if n < l then l else if h < n then h else n)) ∧ w = w' := by
  by_cases h1 : n < l
  · go_enter Try.func81, Try.ntmps81
    go_wp2
    go_ret
    exact ⟨rfl, rfl⟩
  · by_cases h2 : h < n
    · go_enter Try.func81, Try.ntmps81
      go_wp2
      go_ret
      exact ⟨rfl, rfl⟩
    · go_enter Try.func81, Try.ntmps81
      go_wp2
      go_ret
      exact ⟨rfl, rfl⟩

theorem ref_bit (a : Ad) (ha : a.ok) (i : Int) (w : World) :
    Calls Try.prog 110 #[.agg #[.int .u64 (a.1 : Int), .int .u64 (a.2 : Int)], .int .i64 i] w fun e w' => e = .returned (.int .i64 (if 0 ≤ i then (a.bit i.toNat : Int) else 0)) ∧ Below w.heap.size w w' := by
  obtain ⟨hi, lo⟩ := a
  by_cases h0 : 0 ≤ i
  · obtain ⟨k, rfl⟩ := Int.eq_ofNat_of_zero_le h0
    by_cases h1 : k < 64
    · go_enter Try.func110, Try.ntmps110
      go_wp2
      go_ret
      refine ⟨ret_int ?_, (Below.refl _ _).alloc (Nat.le_refl _) _⟩
      rw [word_bit _ _ ha.1]; simp [Ad.bit, h1]
    · by_cases h2 : k < 128
      · go_enter Try.func110, Try.ntmps110
        go_wp2
        go_ret
        refine ⟨ret_int ?_, (Below.refl _ _).alloc (Nat.le_refl _) _⟩
        rw [word_bit _ _ ha.2]; simp [Ad.bit, h1, h2]
      · go_enter Try.func110, Try.ntmps110
        go_wp2
        go_ret
        exact ⟨ret_int (by simp [Ad.bit_out _ k (by omega)]), (Below.refl _ _).alloc (Nat.le_refl _) _⟩
  · go_enter Try.func110, Try.ntmps110
    go_wp2
    go_ret
    exact ⟨ret_int (by simp [h0]), (Below.refl _ _).alloc (Nat.le_refl _) _⟩
theorem ref_bitN (a : Ad) (ha : a.ok) (k : Nat) (r : Int) (hr : (a.bit k : Int) = r) (w : World) :
    Calls Try.prog 110 #[.agg #[.int .u64 (a.1 : Int), .int .u64 (a.2 : Int)], .int .i64 k] w fun e w' => e = .returned (.int .i64 r) ∧ Below w.heap.size w w' := by
  have := ref_bit a ha (k : Int) w
  rw [if_pos (by omega), Int.toNat_natCast, hr] at this; exact this

theorem shl_one (k : Nat) (h : k < 64) : IntKind.u64.wrap ((2 : Int) ^ k) = ((2 ^ k : Nat) : Int) := by
  rw [pow_int]; exact u64_nat _ (Nat.pow_lt_pow_right (by decide) h)
theorem ref_with (a : Ad) (ha : a.ok) (k : Nat) (hk : k < 128) (w : World) :
    Calls Try.prog 111 #[.agg #[.int .u64 (a.1 : Int), .int .u64 (a.2 : Int)], .int .i64 k] w fun e w' => e = .returned (.agg #[.int .u64 ((a.with k).1 : Int), .int .u64 ((a.with k).2 : Int)]) ∧ Below w.heap.size w w' := by
  obtain ⟨hi, lo⟩ := a
  by_cases h1 : k < 64
  · have e1 := shl_one (63 - k) (by omega)
    have e2 := bits_or hi (2 ^ (63 - k)) ha.1 (Nat.pow_lt_pow_right (by decide) (by omega))
    have E1 := hid e1
    have E2 := hid e2
    clear e1 e2
    go_enter Try.func111, Try.ntmps111
    go_wp2
    refine bodyPost_ret (v := .agg #[.int .u64 (bits .or .u64 (hi : Int) (IntKind.u64.wrap (2 ^ (63 - k)))), .int .u64 (lo : Int)]) (by simp [results, Try.results111, go_sem]) rfl ⟨?_, ?_⟩
    · rw [E1.out, E2.out]; simp [Ad.with, h1]
    · repeat (first | exact Below.refl _ _ | apply Below.drew | (refine Below.alloc ?_ (by simp) _))
  · have e1 := shl_one (127 - k) (by omega)
    have e2 := bits_or lo (2 ^ (127 - k)) ha.2 (Nat.pow_lt_pow_right (by decide) (by omega))
    have E1 := hid e1
    have E2 := hid e2
    clear e1 e2
    go_enter Try.func111, Try.ntmps111
    go_wp2
    refine bodyPost_ret (v := .agg #[.int .u64 (hi : Int), .int .u64 (bits .or .u64 (lo : Int) (IntKind.u64.wrap (2 ^ (127 - k))))]) (by simp [results, Try.results111, go_sem]) rfl ⟨?_, ?_⟩
    · rw [E1.out, E2.out]; simp [Ad.with, h1]
    · repeat (first | exact Below.refl _ _ | apply Below.drew | (refine Below.alloc ?_ (by simp) _))

structure CutRel (w : World) (a : Ad) (k : Nat) (wr : World) : Prop where
  out : Blk wr (w.heap.size + 2) 32 [.int .u64 ((a.cut k).1 : Int), .int .u64 ((a.cut k).2 : Int)]
  res : Blk wr (w.heap.size + 1) 32 [.int .u64 0, .int .u64 0]
  arg : Blk wr w.heap.size 32 [.int .u64 (a.1 : Int), .int .u64 (a.2 : Int)]
  below : Below w.heap.size w wr
theorem CutRel.next {w : World} {a : Ad} {k : Nat} {wr w' : World} (h : CutRel w a k wr) (hb : Below wr.heap.size wr w') : CutRel w a k w' :=
  ⟨h.out.below' hb, h.res.below' hb, h.arg.below' hb, held_next h.below hb⟩
theorem CutRel.store {w : World} {a : Ad} {k : Nat} {wr : World} (h : CutRel w a k wr) (he : a.cut (k + 1) = (a.cut k).with k) :
    CutRel w a (k + 1) ((wr.setCell ⟨w.heap.size + 2, 0, none⟩ (.int .u64 (((a.cut k).with k).1 : Int))).setCell ⟨w.heap.size + 2, 1, none⟩ (.int .u64 (((a.cut k).with k).2 : Int))) :=
  ⟨by rw [he]; exact (h.out.set 0 _).set 1 _, (h.res.set_ne (by simp) _).set_ne (by simp) _, (h.arg.set_ne (by simp) _).set_ne (by simp) _,
    (h.below.setCell (by simp) _).setCell (by simp) _⟩
def CutLoop (w : World) (a : Ad) (n : Nat) (i : Value) (wr : World) : Prop := ∃ k : Nat, k ≤ n ∧ i = .int .i64 k ∧ CutRel w a k wr

theorem ref_cut (a : Ad) (ha : a.ok) (n : Int) (w : World) :
    Calls Try.prog 56 #[.agg #[.int .u64 (a.1 : Int), .int .u64 (a.2 : Int)], .int .i64 n] w fun e w' => e = .returned (.agg #[.int .u64 ((a.cut (capL n)).1 : Int), .int .u64 ((a.cut (capL n)).2 : Int)]) ∧ Below w.heap.size w w' := by
  obtain ⟨N, hN⟩ : ∃ N : Nat, N = capL n := ⟨_, rfl⟩
  have hN128 : N ≤ 128 := by unfold capL at hN; omega
  have hcap := fun w => ref_cap n 0 128 w
  have hv : (if n < 0 then 0 else if 128 < n then 128 else n) = (N : Int) := by unfold capL at hN; split <;> (try split) <;> omega
  rw [hv] at hcap
  rw [← hN]
  have HC := hid hcap
  clear hcap hv hN
  have h0 := cut_none ha
  have hbit := fun k w => ref_bitN a ha k _ rfl w
  have hwith := fun k (hk : k < 128) w => ref_with (a.cut k) (Ad.cut_ok ha k) k hk w
  have hnext := fun k hk => cut_next a ha k hk
  have hble := fun k => Ad.bit_le a k
  have HBIT := hid hbit
  have HWITH := hid hwith
  have HNEXT := hid hnext
  have HBLE := hid hble
  have H0 := hid h0
  clear hbit hwith hnext hble h0
  obtain ⟨x, y⟩ := a
  go_enter Try.func56, Try.ntmps56
  go_wp2_with fail
  refine (HC.out _).mono ?_
  rintro _ w1 ⟨rfl, rfl⟩
  go_wp2_with fail
  go_loopw [6] (fun i wr => CutLoop w (x, y) N i wr) (fun i _ => N - (intOf i).toNat)
  case atStart =>
    refine ⟨0, Nat.zero_le _, rfl, ?_, ?_, ?_, ?_⟩
    · rw [H0.out]; exact Blk.new_at _ _ _ _ (by simp)
    · exact (Blk.new_at (w.alloc _) #[.int .u64 0, .int .u64 0] 32 _ (by simp)).alloc _
    · exact ((Blk.new_at w #[.int .u64 (x : Int), .int .u64 (y : Int)] 32 _ rfl).alloc _).alloc _
    · exact (((Below.refl _ _).alloc (Nat.le_refl _) _).alloc (by simp) _).alloc (by simp; omega) _
  case round =>
    obtain ⟨k, hk, rfl, hR⟩ := hrel
    have a0 := hR.arg.cellv (i := 0) rfl
    have a1 := hR.arg.cellv (i := 1) rfl
    by_cases hlt : k < N
    · go_wp2_with fail
      refine (HBIT.out _ _).mono ?_
      rintro _ w2 ⟨rfl, hb2⟩
      have hR2 := hR.next hb2
      clear hR hb2 a0 a1
      have hle := HBLE.out k
      by_cases h1 : Ad.bit (x, y) k = 1
      · have hnx := HNEXT.out k (by omega)
        rw [if_pos h1] at hnx
        have HNX := hid hnx
        rw [h1]
        have o0 := hR2.out.cellv (i := 0) rfl
        have o1 := hR2.out.cellv (i := 1) rfl
        clear hnx h1
        go_wp2_with fail
        refine (HWITH.out k (by omega) _).mono ?_
        rintro _ w3 ⟨rfl, hb3⟩
        have hR3 := hR2.next hb3
        have o0 := hR3.out.cellv (i := 0) rfl
        have o1 := hR3.out.cellv (i := 1) rfl
        have f0 := hR3.out.frozen 0
        have f1 := hR3.out.frozen 1
        clear hR2 hb3
        go_wp2_with fail
        go_roundw
        case rel => exact ⟨k + 1, by omega, by go_num, hR3.store HNX.out⟩
        case measure => simp [intOf]; omega
      · have hnx := HNEXT.out k (by omega)
        rw [if_neg h1] at hnx
        have HNX := hid hnx
        have h0 : Ad.bit (x, y) k = 0 := by omega
        rw [h0]
        clear hnx h1 h0
        go_wp2_with fail
        go_roundw
        case rel => exact ⟨k + 1, by omega, by go_num, by rw [HNX.out]; exact hR2.out, hR2.res, hR2.arg, hR2.below⟩
        case measure => simp [intOf]; omega
    · obtain rfl : k = N := by omega
      have o0 := hR.out.cellv (i := 0) rfl
      have o1 := hR.out.cellv (i := 1) rfl
      have r0 := hR.res.cellv (i := 0) rfl
      have r1 := hR.res.cellv (i := 1) rfl
      have f0 := hR.res.frozen 0
      have f1 := hR.res.frozen 1
      have hb := hid hR.below
      clear hlt hk
      go_wp2_with fail
      refine bodyPost_ret (v := .agg #[.int .u64 ((Ad.cut (x, y) k).1 : Int), .int .u64 ((Ad.cut (x, y) k).2 : Int)]) (by simp [results, Try.results56, go_sem, r0, r1]) rfl ⟨rfl, ?_⟩
      exact (hb.out.setCell (by simp) _).setCell (by simp) _

theorem ref_cutN (a : Ad) (ha : a.ok) (k : Nat) (hk : k ≤ 128) (r : Ad) (hr : a.cut k = r) (w : World) :
    Calls Try.prog 56 #[.agg #[.int .u64 (a.1 : Int), .int .u64 (a.2 : Int)], .int .i64 k] w fun e w' => e = .returned (.agg #[.int .u64 (r.1 : Int), .int .u64 (r.2 : Int)]) ∧ Below w.heap.size w w' := by
  have := ref_cut a ha (k : Int) w
  rw [show capL (k : Int) = k from by unfold capL; omega, hr] at this; exact this

theorem ref_right (a : Ad) (ha : a.ok) (n : Int) (b : Bool) (hb : b = decide (Pf.right (a, n))) (w : World) :
    Calls Try.prog 54 #[.agg #[.int .u64 (a.1 : Int), .int .u64 (a.2 : Int), .int .i64 n]] w fun e w' => e = .returned (.bool b) ∧ Below w.heap.size w w' := by
  obtain ⟨hi, lo⟩ := a
  have hg := guard_ad
  have HB := hid hb
  clear hb
  have hcase : (0 ≤ n ∧ n ≤ 128) ∨ decide (0 ≤ n) = false ∨ (decide (0 ≤ n) = true ∧ decide (n ≤ 128) = false) := by
    by_cases h0 : 0 ≤ n <;> by_cases h1 : n ≤ 128 <;> simp [h0, h1] <;> omega
  rcases hcase with ⟨h0, h1⟩ | h0 | ⟨h0, h1⟩
  all_goals
    go_enter Try.func54, Try.ntmps54
    go_wp2_with fail
    refine wp_region_later (fun w' => w'.cell? ⟨w.heap.size, 0, none⟩ = some (.int .u64 (hi : Int)) ∧ w'.cell? ⟨w.heap.size, 1, none⟩ = some (.int .u64 (lo : Int)) ∧ w'.cell? ⟨w.heap.size, 2, none⟩ = some (.int .i64 n))
      (fun x => ⟨x.cell (by simp), x.cell (by simp), x.cell (by simp)⟩) (by kernel_rfl) (by kernel_rfl) (fun HS => ?_)
    repeat (go_big_quiet_step (first
      | (go_at_call 56; exact Later.calls _ (ref_cut (hi, lo) ha n _))))
    refine wpQuiet_nil ?_
    rintro _ ⟨⟨w1, hb1⟩, rfl⟩
    go_wp2
    go_ret
    refine ⟨?_, Below.trans (b := _) ((Below.refl _ _).alloc (Nat.le_refl _) _) (hb1.mono (by simp))⟩
  · refine ret_bool ?_
    rw [ad_beq (Ad.cut (hi, lo) (capL n)) (hi, lo), HB.out]
    have hc : capL n = n.toNat := by unfold capL; omega
    rw [hc]
    simp [Pf.right, h0, h1]
  · refine ret_bool ?_
    rw [HB.out]
    exact (decide_eq_false (fun k => absurd k.1 (of_decide_eq_false h0))).symm
  · refine ret_bool ?_
    rw [HB.out]
    exact (decide_eq_false (fun k => absurd k.2.1 (of_decide_eq_false h1))).symm

theorem ref_has (p a : Ad) (hp : p.ok) (ha : a.ok) (n : Int) (b : Bool) (hb : b = decide (Pf.has (p, n) a)) (w : World) :
    Calls Try.prog 140 #[.agg #[.int .u64 (p.1 : Int), .int .u64 (p.2 : Int), .int .i64 n], .agg #[.int .u64 (a.1 : Int), .int .u64 (a.2 : Int)]] w fun e w' => e = .returned (.bool b) ∧ Below w.heap.size w w' := by
  obtain ⟨hi, lo⟩ := p
  obtain ⟨ahi, alo⟩ := a
  have hg := guard_ad
  have HB := hid hb
  clear hb
  obtain ⟨r, hr⟩ : ∃ r : Bool, r = decide (Pf.right ((hi, lo), n)) := ⟨_, rfl⟩
  have HR := hid hr
  clear hr
  cases r
  all_goals
    go_enter Try.func140, Try.ntmps140
    go_wp2_with fail
    refine wp_region_later (fun w' => w'.cell? ⟨w.heap.size, 0, none⟩ = some (.int .u64 (hi : Int)) ∧ w'.cell? ⟨w.heap.size, 1, none⟩ = some (.int .u64 (lo : Int)) ∧ w'.cell? ⟨w.heap.size, 2, none⟩ = some (.int .i64 n) ∧ w'.cell? ⟨w.heap.size + 1, 0, none⟩ = some (.int .u64 (ahi : Int)) ∧ w'.cell? ⟨w.heap.size + 1, 1, none⟩ = some (.int .u64 (alo : Int)))
      (fun x => ⟨x.cell (by simp), x.cell (by simp), x.cell (by simp), x.cell (by simp), x.cell (by simp)⟩) (by kernel_rfl) (by kernel_rfl) (fun HS => ?_)
    repeat (go_big_quiet_step (first
      | (go_at_call 54; exact Later.calls _ (ref_right (hi, lo) hp n _ HR.out _))
      | (go_at_call 56; exact Later.calls _ (ref_cut (ahi, alo) ha n _))))
    refine wpQuiet_nil ?_
    rintro _ ⟨⟨w1, hb1⟩, rfl⟩
    go_wp2
    go_ret
    refine ⟨?_, Below.trans (b := _) (((Below.refl _ _).alloc (Nat.le_refl _) _).alloc (by simp) _) (hb1.mono (by simp; omega))⟩
    have hR := HR.out
    first
      | (refine ret_bool ?_; rw [HB.out]
         have hno : ¬ Pf.right ((hi, lo), n) := by simpa using hR
         exact (decide_eq_false (fun k => hno k.1)).symm)
      | (refine ret_bool ?_; rw [ad_beq (Ad.cut (ahi, alo) (capL n)) (hi, lo), HB.out]
         have hyes : Pf.right ((hi, lo), n) := by simpa using hR
         have hc : capL n = n.toNat := by unfold capL; have := hyes.1; have := hyes.2.1; simp at *; omega
         rw [hc]
         simp [Pf.has, hyes])

theorem ref_less (p q : Pf) (b : Bool) (hb : b = decide (p.lt q)) (w : World) :
    Calls Try.prog 105 #[.agg #[.int .u64 (p.1.1 : Int), .int .u64 (p.1.2 : Int), .int .i64 p.2], .agg #[.int .u64 (q.1.1 : Int), .int .u64 (q.1.2 : Int), .int .i64 q.2]] w fun e w' => e = .returned (.bool b) ∧ Below w.heap.size w w' := by
  obtain ⟨⟨a, b'⟩, n⟩ := p
  obtain ⟨⟨c, d⟩, m⟩ := q
  have HB := hid hb
  clear hb
  by_cases h1 : a = c
  · have e1 : ((a : Int) != (c : Int)) = false := by simp [h1]
    by_cases h2 : b' = d
    · have e2 : ((b' : Int) != (d : Int)) = false := by simp [h2]
      have H1 := hid h1
      have H2 := hid h2
      clear h1 h2
      go_enter Try.func105, Try.ntmps105
      go_wp2
      go_ret
      refine ⟨ret_bool ?_, ((Below.refl _ _).alloc (Nat.le_refl _) _).alloc (by simp) _⟩
      rw [HB.out]; unfold Pf.lt; simp [H1.out, H2.out]
    · have e2 : ((b' : Int) != (d : Int)) = true := by simp [h2]; omega
      have H1 := hid h1
      have H2 := hid h2
      clear h1 h2
      go_enter Try.func105, Try.ntmps105
      go_wp2
      go_ret
      refine ⟨ret_bool ?_, ((Below.refl _ _).alloc (Nat.le_refl _) _).alloc (by simp) _⟩
      rw [HB.out]; unfold Pf.lt; simp [H1.out, H2.out]
  · have e1 : ((a : Int) != (c : Int)) = true := by simp [h1]; omega
    have H1 := hid h1
    clear h1
    go_enter Try.func105, Try.ntmps105
    go_wp2
    go_ret
    refine ⟨ret_bool ?_, ((Below.refl _ _).alloc (Nat.le_refl _) _).alloc (by simp) _⟩
    rw [HB.out]; unfold Pf.lt; simp [H1.out]

structure ComRel (w : World) (a b : Ad) (wr : World) : Prop where
  a : Blk wr w.heap.size 32 [.int .u64 (a.1 : Int), .int .u64 (a.2 : Int)]
  b : Blk wr (w.heap.size + 1) 32 [.int .u64 (b.1 : Int), .int .u64 (b.2 : Int)]
  below : Below w.heap.size w wr
def ComLoop (w : World) (a b : Ad) (N : Nat) (i : Value) (wr : World) : Prop := ∃ k : Nat, k ≤ N ∧ i = .int .i64 k ∧ ComRel w a b wr

end Go.Proofs.Ytpjjijhojcfmnaa
