/-
  Contracts of the reference's keys of a prefix, and of its comparing of two lists of prefixes. No condition but that words are words.
-/
import Derived.Test.YtcchjljdhjkmeaaSpread
namespace Go.Proofs.Ytcchjljdhjkmeaa
open Go.RowKit
set_option linter.unusedVariables false
set_option linter.unusedSimpArgs false
set_option maxRecDepth 100000
attribute [local go_sem high] eq_ad eq_pf

/-- The first so many of the prefixes of q bits, each told as one of n. -/
def genK (a : Ad) (n q c : Nat) : List Pf := (List.range c).map fun t => (keyAt a q t, (n : Int))
theorem genK_length (a : Ad) (n q c : Nat) : (genK a n q c).length = c := by simp [genK]
theorem genK_get (a : Ad) (n q c k : Nat) (h : k < c) : (genK a n q c)[k]? = some (keyAt a q k, (n : Int)) := by simp [genK, List.getElem?_range h]
theorem genK_two (a : Ad) (n q k : Nat) : genK a n q (2 * (k + 1)) = genK a n q (2 * k) ++ [(keyAt a q (2 * k), (n : Int)), (keyAt a q (2 * k + 1), (n : Int))] := by
  unfold genK; rw [show 2 * (k + 1) = 2 * k + 1 + 1 from by omega, List.range_succ, List.range_succ]; simp
theorem key_double (a : Ad) (q k : Nat) (hq : q < 128) : keyAt a q k = keyAt a (q + 1) (2 * k) := by
  unfold keyAt; rw [sub_pow (128 - q) (128 - (q + 1)) (by omega), show 128 - q - (128 - (q + 1)) = 1 from by omega, ← Nat.mul_assoc, Nat.pow_one, Nat.mul_comm k 2]
theorem key_with {a : Ad} {m q k : Nat} (ha : a.ok) (hr : a.num % 2 ^ (128 - m) = 0) (hm : m ≤ q) (hq : q < 128) (hk : k < 2 ^ (q - m)) : (keyAt a q k).with q = keyAt a (q + 1) (2 * k + 1) := by
  rw [Ad.with_num (key_ok ha hr hm (by omega) hk) q hq (key_mod ha hr hm (by omega) hk), key_num ha hr hm (by omega) hk]
  unfold keyAt
  rw [sub_pow (128 - q) (128 - (q + 1)) (by omega), show 128 - q - (128 - (q + 1)) = 1 from by omega, ← Nat.mul_assoc, Nat.pow_one, Nat.mul_comm k 2, Nat.add_mul, Nat.one_mul, show 127 - q = 128 - (q + 1) from by omega, Nat.add_assoc]

def RKOuter (w : World) (p : Pf) (m n : Nat) (v i : Value) (wr : World) : Prop :=
  ∃ j : Nat, m + j ≤ n ∧ i = .int .i64 ((m + j : Nat) : Int) ∧ Owns wr (w.heap.size + 1) 37 3 v (2 ^ j) (pfsV (genK p.1 n (m + j) (2 ^ j))) ∧ Below w.heap.size w wr
def RKInner (w wo : World) (p : Pf) (n q c : Nat) (v0 v k : Value) (wi : World) : Prop :=
  ∃ i : Nat, i ≤ c ∧ k = .int .i64 i ∧ Owns wi (wo.heap.size) 37 3 v (2 * i) (pfsV (genK p.1 n (q + 1) (2 * i))) ∧ Rd pfEn 3 wi v0 (genK p.1 n q c) ∧ Below wo.heap.size wo wi

theorem ref_keys (p : Pf) (hp : p.1.ok) (n : Int) (hn64 : -9223372036854775808 ≤ n ∧ n ≤ 9223372036854775807) (w : World) :
    Calls Try.prog 53 #[.agg #[.int .u64 (p.1.1 : Int), .int .u64 (p.1.2 : Int), .int .i64 p.2], .int .i64 n] w (RetPfs w (keysP p n)) := by
  obtain ⟨b, hb⟩ : ∃ b : Bool, b = decide p.right := ⟨_, rfl⟩
  have c1 := hid fun w => ref_right p.1 hp p.2 b hb w
  by_cases hr : p.right
  · obtain rfl : b = true := by rw [hb]; exact decide_eq_true hr
    have h0 := hr.1
    have h1 := hr.2.1
    have HR := hid hr
    have HP := hid hp
    clear hr hb hp
    obtain ⟨⟨a, b⟩, m⟩ := p
    obtain ⟨m, rfl⟩ := Int.eq_ofNat_of_zero_le h0
    by_cases hin : (m : Int) ≤ n ∧ n ≤ 128 ∧ n - m ≤ 8
    · obtain ⟨h2, h3, h4⟩ := hin
      obtain ⟨n, rfl⟩ := Int.eq_ofNat_of_zero_le (show 0 ≤ n by omega)
      have hk : keysP ((a, b), (m : Int)) n = keysOf (a, b) m n := by unfold keysP; rw [if_pos ⟨HR.out, h2, h3, h4⟩]; simp
      have HK := hid hk
      have hrm := hid ((Ad.cut_self HP.out m).1 (by simpa using HR.out.2.2))
      have d1 : decide ((n : Int) < (m : Int)) = false := decide_eq_false (by omega)
      have d1' : decide (n < m) = false := decide_eq_false (by omega)
      have d2 : decide (128 < (n : Int)) = false := decide_eq_false (by omega)
      have d3 : decide (8 < (n : Int) - (m : Int)) = false := decide_eq_false (by omega)
      have c2 := hid fun (a : Ad) (ha : a.ok) (k : Nat) (hk : k < 128) w => ref_with a ha k hk w
      clear hk
      go_enter Try.func53, Try.ntmps53
      go_wp2_with fail
      refine (c1.out _).mono ?_
      rintro _ w1 ⟨rfl, hb1⟩
      have hB := hid (Below.trans (b := _) ((Below.refl w.heap.size w).alloc (Nat.le_refl _) _) (hb1.mono (by simp)))
      have hX := (Blk.new_at w #[.int .u64 (a : Int), .int .u64 (b : Int), .int .i64 (m : Int)] 37 w.heap.size rfl).below' hb1
      have x0 := hX.cellv (i := 0) rfl
      have x1 := hX.cellv (i := 1) rfl
      have x2 := hX.cellv (i := 2) rfl
      have hlt := hX.lt
      clear hb1 hX
      go_wp2_with fail
      go_loopw [5, 6] (fun v i wr => RKOuter w ((a, b), (m : Int)) m n v i wr) (fun _ i _ => n - (intOf i).toNat)
      case atStart =>
        refine ⟨0, by omega, rfl, ?_, hB.out.alloc (by omega) _⟩
        have e0 : pfsV (genK (a, b) n (m + 0) (2 ^ 0)) = [.int .u64 (a : Int), .int .u64 (b : Int), .int .i64 (n : Int)] := by
          simp [genK, pfsV, pfEn, keyAt, Ad.num_of HP.out]
        rw [e0]
        exact Owns.new w1 [.int .u64 (a : Int), .int .u64 (b : Int), .int .i64 (n : Int)] 37 3 1 (w.heap.size + 1) rfl (by unfold maxLen; omega) (by omega)
      case round =>
        clear hB x0 x1 x2 hlt
        obtain ⟨wo, rfl⟩ : ∃ wo : World, wo = wr := ⟨_, rfl⟩
        obtain ⟨j, hj, rfl, hO, hB⟩ := hrel
        by_cases hlt : m + j < n
        · obtain ⟨A, cap, rfl, hnc, hcm, hform⟩ := hO.form
          have hj8 : j ≤ 8 := by omega
          have hpow : 2 ^ j ≤ 256 := by calc 2 ^ j ≤ 2 ^ 8 := Nat.pow_le_pow_right (by decide) hj8
              _ = 256 := rfl
          have HR0 := hid (Rd.of_owns (en := pfEn) (l := genK (a, b) n (m + j) (2 ^ j)) (by rw [genK_length]; exact hO) pfEn_length)
          have hvb := hid (fun q (h : Value.ownBlock (.slice A (2 ^ j) cap) = some q) => (hO.base_le q h).2)
          have HO := hid hO
          have HB := hid hB
          have hHs := hB.size
          have hHs1 : w.heap.size + 1 ≤ wo.heap.size := by obtain ⟨g, _, h1, h2, _⟩ := hform (Nat.pow_pos (by decide)); omega
          have HC := hid fun (k : Nat) (hk : k < 2 ^ j) => key_double (a, b) (m + j) k (by omega)
          have HW := hid fun (k : Nat) (hk : k < 2 ^ j) => key_with (a := (a, b)) HP.out hrm.out (show m ≤ m + j by omega) (by omega) (show k < 2 ^ (m + j - m) by rw [Nat.add_sub_cancel_left]; exact hk)
          have HKO := hid fun (k : Nat) (hk : k < 2 ^ j) => key_ok (a := (a, b)) HP.out hrm.out (show m ≤ m + j by omega) (by omega) (show k < 2 ^ (m + j - m) by rw [Nat.add_sub_cancel_left]; exact hk)
          have HN := hid (show (2 : Nat) ^ (j + 1) = 2 * 2 ^ j by rw [Nat.pow_succ]; omega)
          generalize hc : 2 ^ j = c at *
          have HCC := hid hc
          clear hform hO hB hc
          go_wp2_with fail
          go_loopw [7, 8] (fun v k wi => RKInner w wo ((a, b), (m : Int)) n (m + j) c (.slice A c cap) v k wi) (fun _ k _ => c - (intOf k).toNat)
          case atStart => exact ⟨0, Nat.zero_le _, rfl, Owns.nil _ _ _ _, HR0.out, Below.refl _ _⟩
          case round =>
            obtain ⟨k, hk, rfl, hO2, hR2, hB2⟩ := hrel
            by_cases hlk : k < c
            · have hg := genK_get (a, b) n (m + j) c k hlk
              obtain ⟨g, o, cap2, hv, _, _, hgl, hcell⟩ := hR2.get pfEn_length (by decide) hg
              rw [genK_length] at hv
              injection hv with hA _ hcap
              subst hA
              subst hcap
              have y0 : wr.cell? ⟨g, o + k * 3, none⟩ = some (.int .u64 ((keyAt (a, b) (m + j) k).1 : Int)) := hcell 0 _ rfl
              have y1 : wr.cell? ⟨g, o + k * 3 + 1, none⟩ = some (.int .u64 ((keyAt (a, b) (m + j) k).2 : Int)) := hcell 1 _ rfl
              have y2 : wr.cell? ⟨g, o + k * 3 + 2, none⟩ = some (.int .i64 (n : Int)) := hcell 2 _ rfl
              obtain ⟨A3, cap3, rfl, hnc3, hcm3, hform3⟩ := hO2.form
              have HR2 := hid hR2
              have HO2 := hid hO2
              have HB2 := hid hB2
              have hw := hid (HW.out k hlk)
              have hcc := hid (HC.out k hlk)
              have hko := hid (HKO.out k hlk)
              have hs2 := hB2.size
              clear hcell hg hform3 hR2 hO2 hB2
              generalize hkey : keyAt (a, b) (m + j) k = key at y0 y1 y2 hw hcc hko
              have HKEY := hid hkey
              clear hkey
              obtain ⟨kx, ky⟩ := key
              have hB0 : Below wr.heap.size wr wr.drew := (Below.refl _ _).drew
              have hk0 : (0 : Int) ≤ (k : Int) := by omega
              have hk1 : (k : Int) < (c : Int) := by omega
              generalize hkx : keyAt (a, b) (m + j + 1) (2 * k + 1) = key2 at hw
              have HKX := hid hkx
              clear hkx
              obtain ⟨zx, zy⟩ := key2
              have c3 := hid fun w => by have h := c2.out (kx, ky) hko.out (m + j) (by omega) w; rw [hw.out, Int.natCast_add] at h; exact h
              have HQ := hid (fun (w3 : World) (v4 : Value) (w4 : World) (hB3 : Below wr.heap.size wr w3) (hC4 : Chg (fun q => Value.ownBlock (.slice A3 (2 * k) cap3) = some q) w3 w4) => by
                have hne : ¬ Value.ownBlock (.slice A3 (2 * k) cap3) = some g := fun h => by have h1 := (HO2.out.base_le g h).1; have h2 := hvb.out g rfl; omega
                have hL3 : g < w3.heap.size := held_lt hgl hB3
                exact (⟨(hC4.cell hL3 hne _).trans ((hB3.cell (p := ⟨g, o + k * 3, none⟩) hgl).trans y0),
                  (hC4.cell hL3 hne _).trans ((hB3.cell (p := ⟨g, o + k * 3 + 1, none⟩) hgl).trans y1),
                  (hC4.cell hL3 hne _).trans ((hB3.cell (p := ⟨g, o + k * 3 + 2, none⟩) hgl).trans y2)⟩ : w4.cell? ⟨g, o + k * 3, none⟩ = some (.int .u64 (kx : Int)) ∧ w4.cell? ⟨g, o + k * 3 + 1, none⟩ = some (.int .u64 (ky : Int)) ∧ w4.cell? ⟨g, o + k * 3 + 2, none⟩ = some (.int .i64 (n : Int))))
              go_wp2_with fail
              go_region_held3 (fun w' => w'.cell? ⟨g, o + k * 3, none⟩ = some (.int .u64 (kx : Int)) ∧ w'.cell? ⟨g, o + k * 3 + 1, none⟩ = some (.int .u64 (ky : Int)) ∧ w'.cell? ⟨g, o + k * 3 + 2, none⟩ = some (.int .i64 (n : Int))) (go_keep)
                (first
                  | ((with_reducible refine (c3.out _).mono ?_); rintro _ w3 ⟨rfl, hb3⟩; have hB3 : Below wr.heap.size wr w3 := held_next hB0 hb3; have hL3 : g < w3.heap.size := held_lt hgl hB3; have k0 := (hB3.cell (p := ⟨g, o + k * 3, none⟩) hgl).trans y0; have k1 := (hB3.cell (p := ⟨g, o + k * 3 + 1, none⟩) hgl).trans y1; have k2 := (hB3.cell (p := ⟨g, o + k * 3 + 2, none⟩) hgl).trans y2; clear hb3)
                  | (refine step_pushm (by rfl) _ _ 74 (by rfl) 37 _ 3 24 Try.underlying74 pf_row (by rfl) (by decide) wo.heap.size _ (2 * k) _ (by rfl) (HO2.out.below hB3) _ (by rfl) 2 [.int .u64 _, .int .u64 _, .int .i64 _, .int .u64 _, .int .u64 _, .int .i64 _] (by rfl) (by rfl) (by intro u hu; simp at hu; rcases hu with rfl | rfl | rfl | rfl | rfl | rfl <;> rfl) (by unfold maxLen; omega) (by omega) (by have := hB3.size; omega) ?_; intro v4 w4 hO4 hC4; have q0 := (HQ.out w3 v4 w4 hB3 hC4).1; have q1 := (HQ.out w3 v4 w4 hB3 hC4).2.1; have q2 := (HQ.out w3 v4 w4 hB3 hC4).2.2))
              have hne : ∀ q, Value.ownBlock (.slice (some ⟨g, o, none⟩) c cap) = some q → ¬ Value.ownBlock (.slice A3 (2 * k) cap3) = some q := fun q h1 h2 => by
                have e1 := (HO2.out.base_le q h2).1
                have e2 := hvb.out q h1
                omega
              have hR4 := hid ((HR2.out.below pfEn_length hB3).chg pfEn_length hC4 hne)
              have hB4 := hid ((HB2.out.trans (hB3.mono hs2)).trans (hC4.below (by have := hB3.size; omega) fun q hq h => by have := (HO2.out.base_le q h).1; omega))
              have hO5 : Owns w4 wo.heap.size 37 3 v4 (2 * (k + 1)) (pfsV (genK (a, b) n (m + j + 1) (2 * (k + 1)))) := by
                rw [genK_two, HKX.out, ← hcc.out, pfsV, List.flatMap_append]
                exact hO4
              have HO5 := hid hO5
              clear hne hC4 hB3 hO4 hO5 q0 q1 q2 HQ HR2 HB2 HO2 y0 y1 y2 hB0 hk0 hk1 hw hcc HKX c3 k0 k1 k2 hL3
              go_wp2_with fail
              go_roundw
              case rel => exact ⟨k + 1, by omega, by go_num, HO5.out, hR4.out, hB4.out⟩
              case measure => simp [intOf]; omega
            · obtain rfl : k = c := by omega
              have HO2 := hid hO2
              have HB2 := hid hB2
              have hs2 := hB2.size
              clear hO2 hR2 hB2
              go_wp2_with fail
              go_roundw
              case rel =>
                refine ⟨j + 1, by omega, by go_num, ?_, HB.out.trans (HB2.out.mono hHs)⟩
                rw [HN.out]
                exact HO2.out.lower (by omega)
              case measure => simp [intOf]; omega
        · have HJ := hid (show n - m = j ∧ m + j = n by omega)
          have HO := hid hO
          have HB := hid hB
          clear hO hB
          go_wp2_with fail
          go_ret
          refine ⟨_, rfl, ?_, HB.out⟩
          unfold OwnPfs
          rw [HK.out, keysOf_length, HJ.out.1]
          have := HO.out.lower (show w.heap.size ≤ w.heap.size + 1 by omega)
          rw [HJ.out.2] at this
          unfold keysOf; rw [HJ.out.1]; exact this
    · have hk : keysP ((a, b), (m : Int)) n = [] := keysP_no (fun h => hin ⟨h.2.1, h.2.2.1, h.2.2.2⟩)
      rw [hk]
      clear hk
      by_cases h2 : n < (m : Int)
      · have d1 : decide (n < (m : Int)) = true := decide_eq_true h2
        clear hin h2
        go_enter Try.func53, Try.ntmps53
        go_wp2_with fail
        refine (c1.out _).mono ?_
        rintro _ w1 ⟨rfl, hb1⟩
        have hB := hid (Below.trans (b := _) ((Below.refl w.heap.size w).alloc (Nat.le_refl _) _) (hb1.mono (by simp)))
        have hX := (Blk.new_at w #[.int .u64 (a : Int), .int .u64 (b : Int), .int .i64 (m : Int)] 37 w.heap.size rfl).below' hb1
        have x2 := hX.cellv (i := 2) rfl
        clear hb1 hX
        go_wp2_with fail
        go_ret
        exact ⟨_, rfl, Owns.nil _ _ _ _, hB.out⟩
      · have d1 : decide (n < (m : Int)) = false := decide_eq_false h2
        by_cases h3 : 128 < n
        · have d2 : decide (128 < n) = true := decide_eq_true h3
          clear hin
          go_enter Try.func53, Try.ntmps53
          go_wp2_with fail
          refine (c1.out _).mono ?_
          rintro _ w1 ⟨rfl, hb1⟩
          have hB := hid (Below.trans (b := _) ((Below.refl w.heap.size w).alloc (Nat.le_refl _) _) (hb1.mono (by simp)))
          have hX := (Blk.new_at w #[.int .u64 (a : Int), .int .u64 (b : Int), .int .i64 (m : Int)] 37 w.heap.size rfl).below' hb1
          have x2 := hX.cellv (i := 2) rfl
          clear hb1 hX
          go_wp2_with fail
          go_ret
          exact ⟨_, rfl, Owns.nil _ _ _ _, hB.out⟩
        · have d2 : decide (128 < n) = false := decide_eq_false h3
          have d3 : decide (8 < n - (m : Int)) = true := decide_eq_true (by omega)
          clear hin
          go_enter Try.func53, Try.ntmps53
          go_wp2_with fail
          refine (c1.out _).mono ?_
          rintro _ w1 ⟨rfl, hb1⟩
          have hB := hid (Below.trans (b := _) ((Below.refl w.heap.size w).alloc (Nat.le_refl _) _) (hb1.mono (by simp)))
          have hX := (Blk.new_at w #[.int .u64 (a : Int), .int .u64 (b : Int), .int .i64 (m : Int)] 37 w.heap.size rfl).below' hb1
          have x2 := hX.cellv (i := 2) rfl
          clear hb1 hX
          go_wp2_with fail
          go_ret
          exact ⟨_, rfl, Owns.nil _ _ _ _, hB.out⟩
  · obtain rfl : b = false := by rw [hb]; exact decide_eq_false hr
    have hk : keysP p n = [] := keysP_no (fun h => hr h.1)
    rw [hk]
    clear hk hr hb
    obtain ⟨⟨a, b⟩, m⟩ := p
    go_enter Try.func53, Try.ntmps53
    go_wp2_with fail
    refine (c1.out _).mono ?_
    rintro _ w1 ⟨rfl, hb1⟩
    have hB := hid (Below.trans (b := _) ((Below.refl w.heap.size w).alloc (Nat.le_refl _) _) (hb1.mono (by simp)))
    clear hb1
    go_wp2_with fail
    go_ret
    exact ⟨_, rfl, Owns.nil _ _ _ _, hB.out⟩

end Go.Proofs.Ytcchjljdhjkmeaa
