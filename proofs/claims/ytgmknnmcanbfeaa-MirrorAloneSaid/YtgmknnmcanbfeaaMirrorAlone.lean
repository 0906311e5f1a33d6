/-
  The walk of the law MirrorAlone: for all numbers it returns true and leaves memory alone. No condition.
-/
import Derived.Test.YtgmknnmcanbfeaaMirAlive
namespace Go.Proofs.Ytgmknnmcanbfeaa
open Go.RowKit
set_option linter.unusedVariables false
set_option linter.unusedSimpArgs false
set_option maxRecDepth 100000

namespace Alone
def M (n : Nat) (f : Nat → Bool) : List Bool := (List.range n).map f
theorem M_len (n : Nat) (f : Nat → Bool) : (M n f).length = n := by simp [M]
theorem M_congr (n : Nat) (f h : Nat → Bool) (e : ∀ i, i < n → f i = h i) : M n f = M n h := by
  unfold M; apply List.map_congr_left; intro i hi; exact e i (by simpa using hi)
theorem M_zero (n : Nat) : List.replicate n false = M n (fun _ => false) := by unfold M; rw [List.map_const']; simp
theorem M_on (n : Nat) (f : Nat → Bool) (i : Nat) (h : i < n) : on0 (M n f) (i : Int) = f i := by
  rw [on0_nat]; simp [M, List.getD_eq_getElem?_getD, h]
theorem M_set (n : Nat) (f : Nat → Bool) (i : Nat) (b : Bool) : setC (M n f) (i : Int) b = M n (fun j => if j = i then b else f j) := by
  rw [setC_nat]
  apply List.ext_getElem
  · simp [M]
  · intro j h1 h2
    simp only [M, List.getElem_set, List.getElem_map, List.getElem_range]
    by_cases e : i = j
    · rw [if_pos e, if_pos e.symm]
    · rw [if_neg e, if_neg (fun h => e h.symm)]
theorem M_count (n : Nat) (f : Nat → Bool) : (M n f).countP id = (List.range n).countP f := by
  unfold M; rw [List.countP_map]; rfl
theorem one_of (a : Nat) : ∀ n, (List.range n).countP (fun i => i == a) = if a < n then 1 else 0
  | 0 => by simp
  | n + 1 => by
    rw [List.range_succ, List.countP_append, one_of a n]
    by_cases h : a = n
    · subst h; simp
    · have h' : (n == a) = false := beq_eq_false_iff_ne.2 (fun e => h e.symm)
      have h2 : ¬ n = a := fun e => h e.symm
      by_cases h3 : a < n
      · rw [if_pos h3, if_pos (by omega)]; simp [h2]
      · rw [if_neg h3, if_neg (by omega)]; simp [h2]
def F (all : Bool) (a i : Nat) : Bool := all != (i == a)
theorem F_off (n a : Nat) (h : a < n) : (((M n (F false a)).countP id : Nat) : Int) = 1 := by
  rw [M_count]
  have := one_of a n
  rw [if_pos h] at this
  have e : (F false a) = (fun i => i == a) := by funext i; simp [F]
  rw [e, this]; rfl
theorem F_on (n a : Nat) (h : a < n) : (((M n (F true a)).countP id : Nat) : Int) = (n : Int) - 1 := by
  rw [M_count]
  have h1 := one_of a n
  rw [if_pos h] at h1
  have h2 := List.length_eq_countP_add_countP (fun i => i == a) (l := List.range n)
  have e : (F true a) = (fun i => decide ¬ (i == a) = true) := by funext i; unfold F; cases (i == a) <;> rfl
  rw [e]; rw [List.length_range] at h2; omega

theorem out (n a : Int) (all : Bool) (h : ¬ (1 ≤ n ∧ n ≤ 300 ∧ 0 ≤ a ∧ a < n)) (W : World) :
    Calls Try.prog 14 #[.int .i64 n, .int .i64 a, .bool all] W fun e W' => e = .returned (.bool true) ∧ Below W.heap.size W W' := by
  go_enter Try.func14, Try.ntmps14
  go_wp2_with fail
  refine (mir_alive _).mono ?_
  rintro e w1 ⟨rfl, hb⟩
  go_wp2_with fail
  all_goals (go_ret; exact ⟨rfl, hb⟩)

/-- The state in the loops. -/
def St (W wr : World) (g q : Nat) (c : List Bool) : Prop := MirAt wr g q c ∧ Below W.heap.size W wr
theorem St.up {W w w' : World} {g q : Nat} {c c' : List Bool} (H : St W w g q c) (h : MirAt w' g q c') (k : Chg (· = q) w w') (hq : W.heap.size ≤ q) : St W w' g q c' :=
  ⟨h, H.2.trans (k.below H.2.size (by omega))⟩
def Rel1 (W : World) (g q n : Nat) (all : Bool) (i : Value) (wr : World) : Prop := ∃ k : Nat, k ≤ n ∧ (all = false → k = 0) ∧ i = .int .i64 k ∧ St W wr g q (M n (fun j => decide (j < k)))
def Rel2 (n : Nat) (i : Value) : Prop := ∃ k : Nat, k ≤ n ∧ i = .int .i64 k

set_option maxHeartbeats 1000000 in
theorem inn (n a : Nat) (all : Bool) (h1 : 1 ≤ n) (h3 : n ≤ 300) (ha : a < n) (W : World) :
    Calls Try.prog 14 #[.int .i64 n, .int .i64 a, .bool all] W fun e W' => e = .returned (.bool true) ∧ Below W.heap.size W W' := by
  have hcap : mcap n = n := by unfold mcap; omega
  go_enter Try.func14, Try.ntmps14
  go_wp2_with fail
  refine (mir_alive _).mono ?_
  rintro e w1 ⟨rfl, hb⟩
  go_wp2_with fail
  refine (mir_make _ _).mono ?_
  rintro e w2 ⟨g, q, rfl, hg, hq, hne, H, hb2⟩
  rw [hcap, M_zero] at H
  clear hcap
  have HS : St W w2 g q (M n (fun j => decide (j < 0))) := ⟨by rwa [M_congr n (fun j => decide (j < 0)) (fun _ => false) (fun i _ => by simp)], hb.trans (hb2.mono hb.size)⟩
  have hq' : W.heap.size ≤ q := Nat.le_trans hb.size hq
  clear H hb2 hg hq hne hb
  cases all
  · go_wp2_with fail
    go_loopw [9] (fun i wr => Rel1 W g q n false i wr) (fun i _ => n - (intOf i).toNat)
    case atStart => exact ⟨0, Nat.zero_le _, fun _ => rfl, rfl, HS⟩
    case round =>
      clear HS
      obtain ⟨k, hk, h0, rfl, HS⟩ := hrel
      obtain rfl : k = 0 := h0 rfl
      clear h0 hk
      go_wp2_with fail
      refine (mir_put HS.1 _ _).mono ?_
      rintro e w3 ⟨rfl, H3, hc3⟩
      have HS3 := HS.up H3 hc3 hq'
      rw [M_set, M_congr n _ (F false a) (fun i hi => by unfold F; by_cases e : i = a <;> first | (simp [e, hi]; done) | (simp [e]; omega))] at HS3
      clear H3 hc3 HS
      go_wp2_with fail
      go_loop [10] (fun i => Rel2 n i) (fun i => n - (intOf i).toNat)
      case atStart => exact ⟨0, Nat.zero_le _, rfl⟩
      case round =>
        obtain ⟨i, hi, rfl⟩ := hrel
        by_cases hlt : i < n
        · by_cases he : i = a
          · subst he
            have hb0 : ((i : Int) == (i : Int)) = true := by simp
            go_wp2_with fail
            refine (mir_at HS3.1 _ (F false i i) (M_on _ _ _ hlt)).mono ?_
            rintro e w4 ⟨rfl, rfl⟩
            have hf : F false i i = true := by simp [F]
            rw [hf]
            clear hf
            go_wp2_with fail
            go_round
            case rel => exact ⟨i + 1, by omega, by go_num⟩
            case measure => simp [intOf]; omega
          · have hb0 : ((i : Int) == (a : Int)) = false := beq_eq_false_iff_ne.2 (by omega)
            go_wp2_with fail
            refine (mir_at HS3.1 _ (F false a i) (M_on _ _ _ hlt)).mono ?_
            rintro e w4 ⟨rfl, rfl⟩
            have hf : F false a i = false := by simp [F, he]
            rw [hf]
            clear hf
            go_wp2_with fail
            go_round
            case rel => exact ⟨i + 1, by omega, by go_num⟩
            case measure => simp [intOf]; omega
        · go_wp2_with (go_at_call 52; refine (mir_counts HS3.1 _ (F_off n a ha)).mono ?_; rintro e w4 ⟨rfl, rfl⟩)
          all_goals
            go_ret
            exact ⟨by first | rfl | (simp; omega), HS3.2⟩
  · go_wp2_with fail
    go_loopw [9] (fun i wr => Rel1 W g q n true i wr) (fun i _ => n - (intOf i).toNat)
    case atStart => exact ⟨0, Nat.zero_le _, fun _ => rfl, rfl, HS⟩
    case round =>
      clear HS
      obtain ⟨k, hk, -, rfl, HS⟩ := hrel
      by_cases hlt : k < n
      · go_wp2_with fail
        refine (mir_put HS.1 _ _).mono ?_
        rintro e w3 ⟨rfl, H3, hc3⟩
        have HS3 := HS.up H3 hc3 hq'
        rw [M_set, M_congr n _ (fun j => decide (j < k + 1)) (fun i hi => by by_cases e : i = k <;> simp [e] <;> omega)] at HS3
        clear H3 hc3 HS
        go_wp2_with fail
        go_roundw
        case rel => exact ⟨k + 1, by omega, (fun h => by cases h), by go_num, HS3⟩
        case measure => simp [intOf]; omega
      · obtain rfl : k = n := by omega
        clear hlt hk
        go_wp2_with fail
        refine (mir_put HS.1 _ _).mono ?_
        rintro e w3 ⟨rfl, H3, hc3⟩
        have HS3 := HS.up H3 hc3 hq'
        rw [M_set, M_congr k _ (F true a) (fun i hi => by unfold F; by_cases e : i = a <;> first | (simp [e, hi]; done) | (simp [e]; omega))] at HS3
        clear H3 hc3 HS
        go_wp2_with fail
        go_loop [10] (fun i => Rel2 k i) (fun i => k - (intOf i).toNat)
        case atStart => exact ⟨0, Nat.zero_le _, rfl⟩
        case round =>
          obtain ⟨i, hi, rfl⟩ := hrel
          by_cases hlt : i < k
          · by_cases he : i = a
            · subst he
              have hb0 : ((i : Int) == (i : Int)) = true := by simp
              go_wp2_with fail
              refine (mir_at HS3.1 _ (F true i i) (M_on _ _ _ hlt)).mono ?_
              rintro e w4 ⟨rfl, rfl⟩
              have hf : F true i i = false := by simp [F]
              rw [hf]
              clear hf
              go_wp2_with fail
              go_round
              case rel => exact ⟨i + 1, by omega, by go_num⟩
              case measure => simp [intOf]; omega
            · have hb0 : ((i : Int) == (a : Int)) = false := beq_eq_false_iff_ne.2 (by omega)
              go_wp2_with fail
              refine (mir_at HS3.1 _ (F true a i) (M_on _ _ _ hlt)).mono ?_
              rintro e w4 ⟨rfl, rfl⟩
              have hf : F true a i = true := by simp [F, he]
              rw [hf]
              clear hf
              go_wp2_with fail
              go_round
              case rel => exact ⟨i + 1, by omega, by go_num⟩
              case measure => simp [intOf]; omega
          · go_wp2_with (go_at_call 52; refine (mir_counts HS3.1 _ (F_on k a ha)).mono ?_; rintro e w4 ⟨rfl, rfl⟩)
            all_goals
              go_ret
              exact ⟨by first | rfl | (simp; omega), HS3.2⟩

theorem _root_.Go.Proofs.Ytgmknnmcanbfeaa.mirrorAlone_walk (W : World) (n : Int) (wn : (Lit.int .i64 n).wf = true) (a : Int) (wa : (Lit.int .i64 a).wf = true) (all : Bool) :
    Calls Try.prog 14 #[.int .i64 n, .int .i64 a, .bool all] W fun e W' => e = .returned (.bool true) ∧ Below W.heap.size W W' := by
  by_cases h : 1 ≤ n ∧ n ≤ 300 ∧ 0 ≤ a ∧ a < n
  · obtain ⟨h1, h2, h3, h4⟩ := h
    obtain ⟨n, rfl⟩ := Int.eq_ofNat_of_zero_le (show 0 ≤ n by omega)
    obtain ⟨a, rfl⟩ := Int.eq_ofNat_of_zero_le h3
    exact inn n a all (by omega) (by omega) (by omega) W
  · exact out n a all h W
end Alone
end Go.Proofs.Ytgmknnmcanbfeaa
