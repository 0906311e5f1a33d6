/-
  Contracts of package spread's functions. No condition but that words are words.
-/
import Derived.Test.YtcchjljdhjkmeaaSpreadM
import Derived.Test.YtcchjljdhjkmeaaGBase
namespace Go.Proofs.Ytcchjljdhjkmeaa
open Go.RowKit
set_option linter.unusedVariables false
set_option linter.unusedSimpArgs false
set_option maxRecDepth 100000
attribute [local go_sem high] eq_ad eq_pf

theorem keysP_no {p : Pf} {n : Int} (h : ¬ (p.right ∧ p.2 ≤ n ∧ n ≤ 128 ∧ n - p.2 ≤ 8)) : keysP p n = [] := if_neg h
theorem keysP_len (p : Pf) (n : Int) : (keysP p n).length ≤ 256 := by
  unfold keysP; split
  · rename_i h
    rw [keysOf_length]
    calc 2 ^ (n.toNat - p.2.toNat) ≤ 2 ^ 8 := Nat.pow_le_pow_right (by decide) (by omega)
      _ = 256 := rfl
  · simp

theorem spread_count (p : Pf) (hp : p.1.ok) (n : Int) (w : World) :
    Calls Try.prog 62 #[.agg #[.int .u64 (p.1.1 : Int), .int .u64 (p.1.2 : Int), .int .i64 p.2], .int .i64 n] w fun e w' => e = .returned (.int .i64 ((keysP p n).length : Int)) ∧ Below w.heap.size w w' := by
  obtain ⟨b, hb⟩ : ∃ b : Bool, b = decide p.right := ⟨_, rfl⟩
  have c1 := hid fun w => addr_right p.1 hp p.2 b hb w
  have c2 := hid fun w => Try.bits_Len 256 w (by decide) (by decide)
  by_cases hr : p.right
  · obtain rfl : b = true := by rw [hb]; exact decide_eq_true hr
    have h0 := hr.1
    have h1 := hr.2.1
    have HR := hid hr
    clear hr hb
    obtain ⟨⟨a, b⟩, m⟩ := p
    obtain ⟨m, rfl⟩ := Int.eq_ofNat_of_zero_le h0
    by_cases h2 : n < (m : Int)
    · have e := hid (keysP_no (p := ((a, b), (m : Int))) (n := n) (fun h => by have := h.2.1; simp at this; omega))
      rw [e.out]
      clear e
      have h2' : decide (n < (m : Int)) = true := decide_eq_true h2
      go_enter Try.func62, Try.ntmps62
      go_wp2_with fail
      refine (c1.out _).mono ?_
      rintro _ w1 ⟨rfl, hb1⟩
      have hc := (bcell hb1).1
      have hB := hid (Below.trans (b := _) ((Below.refl w.heap.size w).alloc (Nat.le_refl _) _) (hb1.mono (by simp)))
      clear hb1
      go_wp2_with fail
      go_ret
      exact ⟨rfl, hB.out⟩
    · have h2' : decide (n < (m : Int)) = false := decide_eq_false h2
      by_cases h3 : 128 < n
      · have e := hid (keysP_no (p := ((a, b), (m : Int))) (n := n) (fun h => by have := h.2.2.1; omega))
        rw [e.out]
        clear e
        have h3' : decide (128 < n) = true := decide_eq_true h3
        go_enter Try.func62, Try.ntmps62
        go_wp2_with fail
        refine (c1.out _).mono ?_
        rintro _ w1 ⟨rfl, hb1⟩
        have hc := (bcell hb1).1
        have hB := hid (Below.trans (b := _) ((Below.refl w.heap.size w).alloc (Nat.le_refl _) _) (hb1.mono (by simp)))
        clear hb1
        go_wp2_with fail
        go_ret
        exact ⟨rfl, hB.out⟩
      · have h3' : decide (128 < n) = false := decide_eq_false h3
        obtain ⟨n, rfl⟩ := Int.eq_ofNat_of_zero_le (show 0 ≤ n by omega)
        have e9 : ((Lib.bitLen (256 : Int).toNat : Nat) : Int) = 9 := by decide
        by_cases h4 : 9 ≤ (n : Int) - m
        · have e := hid (keysP_no (p := ((a, b), (m : Int))) (n := n) (fun h => by have := h.2.2.2; simp at this; omega))
          rw [e.out]
          clear e
          have E9 := hid e9
          clear e9
          go_enter Try.func62, Try.ntmps62
          go_wp2_with fail
          refine (c1.out _).mono ?_
          rintro _ w1 ⟨rfl, hb1⟩
          have hc := (bcell hb1).1
          have hB := hid (Below.trans (b := _) ((Below.refl w.heap.size w).alloc (Nat.le_refl _) _) (hb1.mono (by simp)))
          clear hb1
          go_wp2_with fail
          refine (c2.out _).mono ?_
          rintro _ w2 ⟨rfl, rfl⟩
          rw [E9.out]
          go_wp2_with fail
          go_ret
          exact ⟨rfl, hB.out⟩
        · have hlen : (keysP ((a, b), (m : Int)) n).length = 2 ^ (n - m) := by
            unfold keysP; rw [if_pos ⟨HR.out, by simp; omega, by omega, by simp; omega⟩, keysOf_length]; simp
          have E := hid hlen
          clear hlen
          have E9 := hid e9
          clear e9
          go_enter Try.func62, Try.ntmps62
          go_wp2_with fail
          refine (c1.out _).mono ?_
          rintro _ w1 ⟨rfl, hb1⟩
          have hc := (bcell hb1).1
          have hB := hid (Below.trans (b := _) ((Below.refl w.heap.size w).alloc (Nat.le_refl _) _) (hb1.mono (by simp)))
          clear hb1
          go_wp2_with fail
          refine (c2.out _).mono ?_
          rintro _ w2 ⟨rfl, rfl⟩
          rw [E9.out]
          go_wp2_with fail
          go_ret
          refine ⟨ret_int ?_, hB.out⟩
          rw [E.out]
          have hp : (2 : Nat) ^ (n - m) ≤ 2 ^ 8 := Nat.pow_le_pow_right (by decide) (by omega)
          rw [show ((2 : Int) ^ (n - m)) = ((2 ^ (n - m) : Nat) : Int) from by simp]
          generalize (2 : Nat) ^ (n - m) = q at hp ⊢
          unfold wrap64; omega
  · obtain rfl : b = false := by rw [hb]; exact decide_eq_false hr
    have e := hid (keysP_no (p := p) (n := n) (fun h => hr h.1))
    rw [e.out]
    clear e hb hr
    obtain ⟨⟨a, b⟩, m⟩ := p
    go_enter Try.func62, Try.ntmps62
    go_wp2_with fail
    refine (c1.out _).mono ?_
    rintro _ w1 ⟨rfl, hb1⟩
    have hc := (bcell hb1).1
    have hB := hid (Below.trans (b := _) ((Below.refl w.heap.size w).alloc (Nat.le_refl _) _) (hb1.mono (by simp)))
    clear hb1
    go_wp2_with fail
    go_ret
    exact ⟨rfl, hB.out⟩

theorem place_lo {x n : Nat} (hx : x < 2 ^ n) (h : n ≤ 64) : IntKind.u64.wrap ((x : Int) * 2 ^ (64 - n)) = ((Ad.of (x * 2 ^ (128 - n))).1 : Int) ∧ ((Ad.of (x * 2 ^ (128 - n))).2) = 0 := by
  have e := sub_pow (128 - n) 64 (by omega)
  rw [show 128 - n - 64 = 64 - n from by omega] at e
  have hlt : x * 2 ^ (64 - n) < 2 ^ 64 := by
    have := Nat.mul_lt_mul_of_pos_right hx (show 0 < 2 ^ (64 - n) from Nat.pow_pos (by decide))
    rw [← Nat.pow_add, show n + (64 - n) = 64 from by omega] at this; exact this
  unfold Ad.of
  rw [e, ← Nat.mul_assoc, Nat.mul_div_cancel _ (by decide), Nat.mul_mod_left, show ((x : Int) * 2 ^ (64 - n)) = ((x * 2 ^ (64 - n) : Nat) : Int) from by simp]
  exact ⟨u64_nat _ hlt, rfl⟩
theorem place_hi {x n : Nat} (hx8 : x < 256) (h : 64 < n) (hn : n ≤ 128) : (x : Int) / 2 ^ (64 - (128 - n)) = ((Ad.of (x * 2 ^ (128 - n))).1 : Int) ∧ IntKind.u64.wrap ((x : Int) * 2 ^ (128 - n)) = ((Ad.of (x * 2 ^ (128 - n))).2 : Int) := by
  have e := sub_pow 64 (128 - n) (by omega)
  unfold Ad.of
  constructor
  · rw [show ((x : Int) / 2 ^ (64 - (128 - n))) = ((x / 2 ^ (64 - (128 - n)) : Nat) : Int) from by simp]
    congr 1
    show _ = x * 2 ^ (128 - n) / 2 ^ 64
    rw [e, Nat.mul_div_mul_right _ _ (Nat.pow_pos (by decide))]
  · rw [show ((x : Int) * 2 ^ (128 - n)) = ((x * 2 ^ (128 - n) : Nat) : Int) from by simp, IntKind.wrap_u64]
    show _ = ((x * 2 ^ (128 - n) % 2 ^ 64 : Nat) : Int)
    generalize x * 2 ^ (128 - n) = q
    omega

theorem spread_place (x n : Nat) (hx : x < 2 ^ n) (hx8 : x < 256) (hn : n ≤ 128) (w : World) :
    Calls Try.prog 63 #[.int .u64 (x : Int), .int .i64 (n : Int)] w fun e w' => e = .returned (.agg #[.int .u64 ((Ad.of (x * 2 ^ (128 - n))).1 : Int), .int .u64 ((Ad.of (x * 2 ^ (128 - n))).2 : Int)]) ∧ Below w.heap.size w w' := by
  by_cases h : n ≤ 64
  · go_enter Try.func63, Try.ntmps63
    go_wp2_with fail
    refine bodyPost_ret (v := .agg #[.int .u64 (IntKind.u64.wrap ((x : Int) * 2 ^ (64 - n))), .int .u64 0]) (by simp [results, Try.results63, go_sem]) rfl ⟨?_, (Below.refl _ _).alloc (Nat.le_refl _) _⟩
    obtain ⟨e1, e2⟩ := place_lo hx h
    rw [e1, e2]; rfl
  · have h1 : (0 : Int) ≤ 64 - (128 - (n : Int)) := by omega
    have h2 : (0 : Int) ≤ (128 - (n : Int)) := by omega
    go_enter Try.func63, Try.ntmps63
    go_wp2_with fail
    go_region
    all_goals go_wp2
    all_goals
      refine bodyPost_ret (v := .agg #[.int .u64 ((x : Int) / 2 ^ (64 - (128 - n))), .int .u64 (IntKind.u64.wrap ((x : Int) * 2 ^ (128 - n)))]) (by simp [results, Try.results63, go_sem]) rfl ⟨?_, ((Below.refl _ _).alloc (Nat.le_refl _) _).drew⟩
      obtain ⟨e1, e2⟩ := place_hi hx8 (show 64 < n by omega) hn
      rw [e1, e2]

theorem pf_row : (Try.prog.info? 37).map (fun i => (i.zero, i.size, i.bytes)) = some (some (.agg #[.int .u64 0, .int .u64 0, .int .i64 0]), 3, 24) := by kernel_rfl
theorem pfEn_length (p : Pf) : (pfEn p).length = 3 := rfl
def pfsV (l : List Pf) : List Value := l.flatMap pfEn
def keysN (a : Ad) (n k : Nat) : List Pf := (List.range k).map fun i => (keyAt a n i, (n : Int))
theorem keysN_snoc (a : Ad) (n k : Nat) : keysN a n (k + 1) = keysN a n k ++ [(keyAt a n k, (n : Int))] := by simp [keysN, List.range_succ]
theorem pfsV_snoc (l : List Pf) (p : Pf) : pfsV (l ++ [p]) = pfsV l ++ [.int .u64 (p.1.1 : Int), .int .u64 (p.1.2 : Int), .int .i64 p.2] := by simp [pfsV, pfEn]
/-- The keys as a slice of the call's own. -/
def KeysLoop (w : World) (p : Pf) (n N : Nat) (v i : Value) (wr : World) : Prop :=
  ∃ k : Nat, k ≤ N ∧ i = .int .i64 k ∧ Owns wr (w.heap.size + 1) 37 3 v k (pfsV (keysN p.1 n k)) ∧ Blk wr w.heap.size 37 [.int .u64 (p.1.1 : Int), .int .u64 (p.1.2 : Int), .int .i64 p.2] ∧ Below w.heap.size w wr

/-- Own v: a result that is a slice of the call's own, read as a list of prefixes. -/
def OwnPfs (w : World) (l : List Pf) (w' : World) (v : Value) : Prop := Owns w' w.heap.size 37 3 v l.length (pfsV l)
def RetPfs (w : World) (l : List Pf) (e : Ending) (w' : World) : Prop := ∃ v, e = .returned v ∧ OwnPfs w l w' v ∧ Below w.heap.size w w'

theorem spread_keys (p : Pf) (hp : p.1.ok) (n : Int) (w : World) :
    Calls Try.prog 47 #[.agg #[.int .u64 (p.1.1 : Int), .int .u64 (p.1.2 : Int), .int .i64 p.2], .int .i64 n] w (RetPfs w (keysP p n)) := by
  have c1 := hid fun w => spread_count p hp n w
  have hle := keysP_len p n
  by_cases hin : p.right ∧ p.2 ≤ n ∧ n ≤ 128 ∧ n - p.2 ≤ 8
  · have hk : keysP p n = keysOf p.1 p.2.toNat n.toNat := if_pos hin
    obtain ⟨hr, h1, h2, h3⟩ := hin
    have h0 := hr.1
    obtain ⟨⟨a, b⟩, m⟩ := p
    obtain ⟨m, rfl⟩ := Int.eq_ofNat_of_zero_le h0
    obtain ⟨n, rfl⟩ := Int.eq_ofNat_of_zero_le (show 0 ≤ n by omega)
    rw [Int.toNat_natCast, Int.toNat_natCast] at hk
    have hrm : (Ad.num (a, b)) % 2 ^ (128 - m) = 0 := (Ad.cut_self hp m).1 (by simpa using hr.2.2)
    obtain ⟨N, hN⟩ : ∃ N, N = 2 ^ (n - m) := ⟨_, rfl⟩
    have hl : (keysP ((a, b), (m : Int)) n).length = N := by rw [hk, keysOf_length, hN]
    have hNK : keysP ((a, b), (m : Int)) n = keysN (a, b) n N := by rw [hk, hN]; rfl
    have hN256 : N ≤ 256 := by rw [← hl]; exact hle
    have c2 := hid fun (i : Nat) (hi : i < N) w => spread_place i n (Nat.lt_of_lt_of_le hi (by rw [hN]; exact Nat.pow_le_pow_right (by decide) (by omega))) (by omega) (by omega) w
    have c3 := hid fun (i : Nat) (hi : i < N) => Ad.or_of (a := (a, b)) hp hrm (key_off (a := (a, b)) hp hrm (show m ≤ n by omega) (show n ≤ 128 by omega) (show i < 2 ^ (n - m) by omega))
    have c4 := hid fun (i : Nat) (hi : i < N) => Ad.of_ok (x := i * 2 ^ (128 - n)) (Nat.lt_of_lt_of_le (key_off (a := (a, b)) hp hrm (show m ≤ n by omega) (show n ≤ 128 by omega) (show i < 2 ^ (n - m) by omega)) (Nat.pow_le_pow_right (by decide) (by omega)))
    have HK := hid hNK
    have HP := hid hp
    rw [hl] at c1
    clear hk hl hrm hN hr hNK hle hp h0 h1 h2 h3
    go_enter Try.func47, Try.ntmps47
    go_wp2_with fail
    refine (c1.out _).mono ?_
    rintro _ w1 ⟨rfl, hb1⟩
    have hB := hid (Below.trans (b := _) ((Below.refl w.heap.size w).alloc (Nat.le_refl _) _) (hb1.mono (by simp)))
    have hX := hid ((Blk.new_at w #[.int .u64 (a : Int), .int .u64 (b : Int), .int .i64 (m : Int)] 37 w.heap.size rfl).below' hb1)
    clear hb1
    go_wp2_with fail
    go_loopw [5, 11] (fun v i wr => KeysLoop w ((a, b), (m : Int)) n N v i wr) (fun _ i _ => N - (intOf i).toNat)
    case atStart => exact ⟨0, Nat.zero_le _, rfl, Owns.nil _ _ _ _, hX.out, hB.out⟩
    case round =>
      clear hB hX
      obtain ⟨i, hi, rfl, hO, hX, hB⟩ := hrel
      by_cases hlt : i < N
      · obtain ⟨A, cap, rfl, hnc, hcm, hform⟩ := hO.form
        have hs0 := hX.lt
        have HX := hid hX
        have HO := hid hO
        have HB := hid hB
        clear hform hX hO hB
        go_wp2_with fail
        refine (c2.out i hlt _).mono ?_
        rintro _ w3 ⟨rfl, hb3⟩
        have hX3 := HX.out.below' hb3
        have HO3 := hid (HO.out.below hb3)
        have HB3 := hid (held_next HB.out hb3)
        have hs3 := hX3.lt
        have x0 := hX3.cellv (i := 0) rfl
        have x1 := hX3.cellv (i := 1) rfl
        have HX3 := hid hX3
        have e3 := c3.out i hlt
        have o4 := c4.out i hlt
        have e5 := bits_or a (Ad.of (i * 2 ^ (128 - n))).1 HP.out.1 o4.1
        have e6 := bits_or b (Ad.of (i * 2 ^ (128 - n))).2 HP.out.2 o4.2
        have e7 : a ||| (Ad.of (i * 2 ^ (128 - n))).1 = (keyAt (a, b) n i).1 := congrArg Prod.fst e3
        have e8 : b ||| (Ad.of (i * 2 ^ (128 - n))).2 = (keyAt (a, b) n i).2 := congrArg Prod.snd e3
        rw [e7] at e5
        rw [e8] at e6
        clear hb3 HX HO HB hX3 e3 o4 e7 e8
        generalize (Ad.of (i * 2 ^ (128 - n))).1 = y1 at e5 ⊢
        generalize (Ad.of (i * 2 ^ (128 - n))).2 = y2 at e6 ⊢
        go_wp2_with (at_builtin; refine wpList_pushm rfl _ _ 74 rfl 37 _ 3 24 Try.underlying74 pf_row rfl (by decide) (w.heap.size + 1) _ i _ rfl (Owns.below HO3.out ((Below.refl _ _).alloc (Nat.le_refl _) _)) (w3.heap.size + 1) (by simp) 1 [.int .u64 _, .int .u64 _, .int .i64 _] rfl rfl ?c1 ?c2 ?c3 ?c4 ?_)
        case c1 => intro u hu; simp at hu; rcases hu with rfl | rfl | rfl <;> rfl
        case c2 => unfold maxLen; omega
        case c3 => omega
        case c4 => simp; omega
        intro v' w4 hO4 hC4
        have hC4' := hid (((Chg.refl (fun g => Value.ownBlock (.slice A i cap) = some g) w3).alloc (.cells #[.int .u64 (y1 : Int), .int .u64 (y2 : Int)] 35)).trans' hC4)
        have hne := (HO3.out.base_le w.heap.size)
        have hX4 := hid (HX3.out.chg hC4'.out (fun h => by have := (hne h).1; omega))
        have hB4 := hid (HB3.out.trans (hC4'.out.below (by omega) (fun g hg k => by have := (HO3.out.base_le g k).1; omega)))
        have HO4 := hid hO4
        clear hO4 hC4 hC4' HO3 HX3 HB3 hne x0 x1 e5 e6
        go_wp2_with fail
        go_roundw
        case rel => exact ⟨i + 1, by omega, by go_num, by rw [keysN_snoc, pfsV_snoc]; exact HO4.out, hX4.out, hB4.out⟩
        case measure => simp [intOf]; omega
      · obtain rfl : i = N := by omega
        have HO := hid hO
        have HB2 := hid hB
        clear hO hB hX
        go_wp2_with fail
        go_ret
        exact ⟨_, rfl, by unfold OwnPfs; rw [HK.out]; simpa [keysN] using HO.out.lower (by omega), HB2.out⟩
  · have hk : keysP p n = [] := keysP_no hin
    rw [hk] at c1 ⊢
    clear hk hle hin
    obtain ⟨⟨a, b⟩, m⟩ := p
    go_enter Try.func47, Try.ntmps47
    go_wp2_with fail
    refine (c1.out _).mono ?_
    rintro _ w1 ⟨rfl, hb1⟩
    have hB := hid (Below.trans (b := _) ((Below.refl w.heap.size w).alloc (Nat.le_refl _) _) (hb1.mono (by simp)))
    clear hb1
    go_wp2_with fail
    refine wp_loop_rounds 1 ?_
    rw [rounds_succ]
    go_wp2_with fail
    go_ret
    exact ⟨_, rfl, Owns.nil _ _ _ _, hB.out⟩

end Go.Proofs.Ytcchjljdhjkmeaa
