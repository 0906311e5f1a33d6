/-
  The walk of the law FilterKeeps: for all inputs it returns true and leaves memory alone. No condition.
-/
import Derived.Test.YtpjjijhojcfmnaaFilLaw
import Derived.Test.YtpjjijhojcfmnaaAddrOpen
namespace Go.Proofs.Ytpjjijhojcfmnaa
open Go.RowKit
set_option linter.unusedVariables false
set_option linter.unusedSimpArgs false
set_option maxRecDepth 100000

theorem filterKeeps_out (W : World) (s : Nat) (k m : Int) (A1 A2 : Option Addr) (c1 c2 n1 n2 : Nat) (h1 : n1 ≤ c1) (h2 : n2 ≤ c2) (hc1 : c1 ≤ maxLen) (hc2 : c2 ≤ maxLen) (h : ¬ (1 ≤ k ∧ k ≤ 16 ∧ 1 ≤ m ∧ m ≤ 500 ∧ n1 ≤ 60 ∧ n2 ≤ 60)) :
    Calls Try.prog 3 #[.int .u64 (s : Int), .int .i64 k, .int .i64 m, .slice A1 n1 c1, .slice A2 n2 c2] W fun e W' => e = .returned (.bool true) ∧ Below W.heap.size W W' := by
  unfold maxLen at hc1 hc2
  go_enter Try.func3, Try.ntmps3
  go_wp2_with fail
  refine (filter_alive _).mono ?_
  rintro e w1 ⟨rfl, hb⟩
  go_wp2_with fail
  all_goals (go_ret; exact ⟨rfl, hb⟩)

def KeepRel (W : World) (f : Nat) (F : Nat → Prop) (s : Nat) (k : Int) (m : Nat) (L : Nat → List Nat) (i : Value) (wr : World) : Prop :=
  ∃ (j : Nat) (c : List Nat), j ≤ 60 ∧ i = .int .i64 j ∧ Flt wr f F s k c ∧ Trk m c (L j) ∧ Below W.heap.size W wr

set_option maxHeartbeats 4000000 in
theorem filterKeeps_in (W : World) (s : Nat) (hs : s < 2 ^ 64) (k : Int) (m : Nat) (hk1 : 1 ≤ k) (hk2 : k ≤ 16) (hm1 : 1 ≤ m) (hm2 : m ≤ 500) (v1 v2 : Value) (l1 l2 : List Pf) (R1 : Rd pfEn 3 W v1 l1) (R2 : Rd pfEn 3 W v2 l2)
    (o1 : ∀ p ∈ l1, p.1.ok) (o2 : ∀ p ∈ l2, p.1.ok) (hl1 : l1.length ≤ 60) (hl2 : l2.length ≤ 60) :
    Calls Try.prog 3 #[.int .u64 (s : Int), .int .i64 k, .int .i64 (m : Int), v1, v2] W fun e W' => e = .returned (.bool true) ∧ Below W.heap.size W W' := by
  have HR1 := hid fun k x (h : l1[k]? = some x) => R1.get pfE_len (by decide) h
  have HR2 := hid fun k x (h : l2[k]? = some x) => R2.get pfE_len (by decide) h
  have O1 := hid fun (k : Nat) (x : Pf) (h : l1[k]? = some x) => o1 x (List.mem_of_getElem? h)
  have O2 := hid fun (k : Nat) (x : Pf) (h : l2[k]? = some x) => o2 x (List.mem_of_getElem? h)
  obtain ⟨A1, k1, rfl, n1, m1⟩ := R1.form
  obtain ⟨A2, k2, rfl, n2, m2⟩ := R2.form
  unfold maxLen at m1 m2
  obtain ⟨N1, hN1⟩ : ∃ N, l1.length = N := ⟨_, rfl⟩
  obtain ⟨N2, hN2⟩ : ∃ N, l2.length = N := ⟨_, rfl⟩
  have HN1 := hid hN1
  have HN2 := hid hN2
  rw [hN1] at n1 hl1 ⊢
  rw [hN2] at n2 hl2 ⊢
  have cnew := hid fun w => filter_new s hs k m hk1 hk2 hm1 (by omega) w
  have HPL := hid fun p => placesN_lt (s := s) (p := p) (k := k) (m := m) (by omega)
  clear R1 R2 o1 o2 hN1 hN2 hs
  have d5 : decide (k < 1) = false := decide_eq_false (by omega)
  have d6 : decide (16 < k) = false := decide_eq_false (by omega)
  have d1 : decide ((m : Int) < 1) = false := decide_eq_false (by omega)
  have d2 : decide ((500 : Int) < (m : Int)) = false := decide_eq_false (by omega)
  have d3 : decide ((60 : Int) < (N1 : Int)) = false := decide_eq_false (by omega)
  have d4 : decide ((60 : Int) < (N2 : Int)) = false := decide_eq_false (by omega)
  go_enter Try.func3, Try.ntmps3
  go_wp2_with fail
  refine (filter_alive _).mono ?_
  rintro e w1 ⟨rfl, hb⟩
  have HB := hid hb
  clear hb
  go_wp2_with fail
  refine (cnew.out _).mono ?_
  rintro _ w2 ⟨f, F, rfl, hX, hF, hb2⟩
  have HF := hid (show ∀ x, F x → W.heap.size ≤ x from fun x hx => Nat.le_trans HB.out.size (hF x hx).1)
  have HX := hid hX
  have HB2 := hid (held_next HB.out hb2)
  clear hX hF hb2 HB cnew
  go_wp2_with fail
  refine (law9_num _ _).mono ?_
  rintro _ w3 ⟨rfl, rfl⟩
  go_wp2_with fail
  go_loopw [14] (fun i wr => KeepRel W f F s k m (fun j => (l2.take j).flatMap (fun p => placesN s p k m) ++ (l1.take j).flatMap (fun p => placesN s p k m)) i wr) (fun i _ => 60 - (intOf i).toNat)
  case atStart => exact ⟨0, _, Nat.zero_le _, rfl, HX.out, Trk.zero m, HB2.out⟩
  case round =>
    clear HX HB2
    obtain ⟨j, c, hj, rfl, hX, hT, hB⟩ := hrel
    have hT : Trk m c ((l2.take j).flatMap (fun p => placesN s p k m) ++ (l1.take j).flatMap (fun p => placesN s p k m)) := hT
    have HX := hid hX
    have HT := hid hT
    have HB := hid hB
    clear hX hT hB
    by_cases h2 : j < N2
    · obtain ⟨x, hx⟩ : ∃ x, l2[j]? = some x := ⟨_, List.getElem?_eq_getElem (by rw [HN2.out]; exact h2)⟩
      obtain ⟨ba, oa, ca, hv, _, _, la, sa⟩ := HR2.out j x hx
      injection hv with hA hxx hc
      subst hA hc
      have y0 : wr.cell? ⟨ba, oa + j * 3, none⟩ = some (.int .u64 (x.1.1 : Int)) := (HB.out.cell (p := ⟨ba, oa + j * 3, none⟩) la).trans (sa 0 _ rfl)
      have y1 : wr.cell? ⟨ba, oa + j * 3 + 1, none⟩ = some (.int .u64 (x.1.2 : Int)) := (HB.out.cell (p := ⟨ba, oa + j * 3 + 1, none⟩) la).trans (sa 1 _ rfl)
      have y2 : wr.cell? ⟨ba, oa + j * 3 + 2, none⟩ = some (.int .i64 x.2) := (HB.out.cell (p := ⟨ba, oa + j * 3 + 2, none⟩) la).trans (sa 2 _ rfl)
      have ca := hid (keep_add HX.out HT.out HB.out HF.out x (O2.out j x hx) (L' := (l2.take (j + 1)).flatMap (fun p => placesN s p k m) ++ (l1.take j).flatMap (fun p => placesN s p k m)) (fun i => by
        rw [List.count_append, List.count_append, count_flat_take _ hx]; omega))
      obtain ⟨⟨x1, x2⟩, x3⟩ := x
      clear sa hxx hx HX HT HB
      rcases (show j < N1 ∨ ¬ j < N1 by omega) with h1 | h1
      all_goals
        go_wp2_with fail
        refine ca.out.mono ?_
        rintro _ w4 ⟨rfl, c4, hX4, hT4, hB4⟩
        have HX4 := hid hX4
        have HT4 := hid hT4
        have HB4 := hid hB4
        clear hX4 hT4 hB4 ca y0 y1 y2
      · obtain ⟨x, hx⟩ : ∃ x, l1[j]? = some x := ⟨_, List.getElem?_eq_getElem (by rw [HN1.out]; exact h1)⟩
        obtain ⟨ba, oa, ca, hv, _, _, la, sa⟩ := HR1.out j x hx
        injection hv with hA hxx hc
        subst hA hc
        have y0 : w4.cell? ⟨ba, oa + j * 3, none⟩ = some (.int .u64 (x.1.1 : Int)) := (HB4.out.cell (p := ⟨ba, oa + j * 3, none⟩) la).trans (sa 0 _ rfl)
        have y1 : w4.cell? ⟨ba, oa + j * 3 + 1, none⟩ = some (.int .u64 (x.1.2 : Int)) := (HB4.out.cell (p := ⟨ba, oa + j * 3 + 1, none⟩) la).trans (sa 1 _ rfl)
        have y2 : w4.cell? ⟨ba, oa + j * 3 + 2, none⟩ = some (.int .i64 x.2) := (HB4.out.cell (p := ⟨ba, oa + j * 3 + 2, none⟩) la).trans (sa 2 _ rfl)
        have ca := hid (keep_add HX4.out HT4.out HB4.out HF.out x (O1.out j x hx) (L' := (l2.take (j + 1)).flatMap (fun p => placesN s p k m) ++ (l1.take (j + 1)).flatMap (fun p => placesN s p k m)) (fun i => by
          rw [List.count_append, List.count_append, count_flat_take _ hx]; omega))
        obtain ⟨⟨x1, x2⟩, x3⟩ := x
        clear sa hxx hx HX4 HT4 HB4
        go_wp2_with fail
        refine ca.out.mono ?_
        rintro _ w5 ⟨rfl, c5, hX5, hT5, hB5⟩
        have HX5 := hid hX5
        have HT5 := hid hT5
        have HB5 := hid hB5
        clear hX5 hT5 hB5 ca y0 y1 y2
        go_wp2_with fail
        go_roundw
        case rel => exact ⟨j + 1, c5, by omega, by go_num, HX5.out, HT5.out, HB5.out⟩
        case measure => simp [intOf]; omega
      · have HE := hid (show l1.take j = l1.take (j + 1) from by rw [List.take_of_length_le (by rw [HN1.out]; omega), List.take_of_length_le (by rw [HN1.out]; omega)])
        go_wp2_with fail
        go_roundw
        case rel => exact ⟨j + 1, c4, by omega, by go_num, HX4.out, by have := HT4.out; rw [HE.out] at this; exact this, HB4.out⟩
        case measure => simp [intOf]; omega
    · have HE2 := hid (show l2.take j = l2.take (j + 1) from by rw [List.take_of_length_le (by rw [HN2.out]; omega), List.take_of_length_le (by rw [HN2.out]; omega)])
      by_cases h1 : j < N1
      · obtain ⟨x, hx⟩ : ∃ x, l1[j]? = some x := ⟨_, List.getElem?_eq_getElem (by rw [HN1.out]; exact h1)⟩
        obtain ⟨ba, oa, ca, hv, _, _, la, sa⟩ := HR1.out j x hx
        injection hv with hA hxx hc
        subst hA hc
        have y0 : wr.cell? ⟨ba, oa + j * 3, none⟩ = some (.int .u64 (x.1.1 : Int)) := (HB.out.cell (p := ⟨ba, oa + j * 3, none⟩) la).trans (sa 0 _ rfl)
        have y1 : wr.cell? ⟨ba, oa + j * 3 + 1, none⟩ = some (.int .u64 (x.1.2 : Int)) := (HB.out.cell (p := ⟨ba, oa + j * 3 + 1, none⟩) la).trans (sa 1 _ rfl)
        have y2 : wr.cell? ⟨ba, oa + j * 3 + 2, none⟩ = some (.int .i64 x.2) := (HB.out.cell (p := ⟨ba, oa + j * 3 + 2, none⟩) la).trans (sa 2 _ rfl)
        have ca := hid (keep_add HX.out HT.out HB.out HF.out x (O1.out j x hx) (L' := (l2.take (j + 1)).flatMap (fun p => placesN s p k m) ++ (l1.take (j + 1)).flatMap (fun p => placesN s p k m)) (fun i => by
          rw [← HE2.out, List.count_append, List.count_append, count_flat_take _ hx]; omega))
        obtain ⟨⟨x1, x2⟩, x3⟩ := x
        clear sa hxx hx HX HT HB
        go_wp2_with fail
        refine ca.out.mono ?_
        rintro _ w5 ⟨rfl, c5, hX5, hT5, hB5⟩
        have HX5 := hid hX5
        have HT5 := hid hT5
        have HB5 := hid hB5
        clear hX5 hT5 hB5 ca y0 y1 y2
        go_wp2_with fail
        go_roundw
        case rel => exact ⟨j + 1, c5, by omega, by go_num, HX5.out, HT5.out, HB5.out⟩
        case measure => simp [intOf]; omega
      · have hT' := HT.out
        rw [List.take_of_length_le (l := l1) (by rw [HN1.out]; omega), List.take_of_length_le (l := l2) (by rw [HN2.out]; omega)] at hT'
        have HT' := hid hT'
        clear hT' HT HE2
        go_wp2_with fail
        go_loopw [15] (fun i wr => KeepRel W f F s k m (fun j => (l2.drop j).flatMap (fun p => placesN s p k m) ++ l1.flatMap (fun p => placesN s p k m)) i wr) (fun i _ => 60 - (intOf i).toNat)
        case atStart => exact ⟨0, c, Nat.zero_le _, rfl, HX.out, HT'.out, HB.out⟩
        case round =>
          clear HX HT' HB
          obtain ⟨j, c, hj, rfl, hX, hT, hB⟩ := hrel
          have hT : Trk m c ((l2.drop j).flatMap (fun p => placesN s p k m) ++ l1.flatMap (fun p => placesN s p k m)) := hT
          have HX := hid hX
          have HT := hid hT
          have HB := hid hB
          clear hX hT hB
          by_cases h2 : j < N2
          · obtain ⟨x, hx⟩ : ∃ x, l2[j]? = some x := ⟨_, List.getElem?_eq_getElem (by rw [HN2.out]; exact h2)⟩
            obtain ⟨ba, oa, ca, hv, _, _, la, sa⟩ := HR2.out j x hx
            injection hv with hA hxx hc
            subst hA hc
            have y0 : wr.cell? ⟨ba, oa + j * 3, none⟩ = some (.int .u64 (x.1.1 : Int)) := (HB.out.cell (p := ⟨ba, oa + j * 3, none⟩) la).trans (sa 0 _ rfl)
            have y1 : wr.cell? ⟨ba, oa + j * 3 + 1, none⟩ = some (.int .u64 (x.1.2 : Int)) := (HB.out.cell (p := ⟨ba, oa + j * 3 + 1, none⟩) la).trans (sa 1 _ rfl)
            have y2 : wr.cell? ⟨ba, oa + j * 3 + 2, none⟩ = some (.int .i64 x.2) := (HB.out.cell (p := ⟨ba, oa + j * 3 + 2, none⟩) la).trans (sa 2 _ rfl)
            have ca := hid (keep_rem HX.out HT.out HB.out HF.out x (O2.out j x hx) (L' := (l2.drop (j + 1)).flatMap (fun p => placesN s p k m) ++ l1.flatMap (fun p => placesN s p k m)) (fun i => by
              rw [List.count_append, List.count_append, count_flat_drop _ hx]; omega))
            obtain ⟨⟨x1, x2⟩, x3⟩ := x
            clear sa hxx hx HX HT HB
            go_wp2_with fail
            refine ca.out.mono ?_
            rintro _ w4 ⟨rfl, c4, hX4, hT4, hB4⟩
            have HX4 := hid hX4
            have HT4 := hid hT4
            have HB4 := hid hB4
            clear hX4 hT4 hB4 ca y0 y1 y2
            go_wp2_with fail
            go_roundw
            case rel => exact ⟨j + 1, c4, by omega, by go_num, HX4.out, HT4.out, HB4.out⟩
            case measure => simp [intOf]; omega
          · have hT' := HT.out
            rw [List.drop_eq_nil_of_le (by rw [HN2.out]; omega)] at hT'
            have HT' := hid (show Trk m c (l1.flatMap (fun p => placesN s p k m)) from hT')
            clear hT' HT
            go_wp2_with fail
            go_loopw [16] (fun i wr => KeepRel W f F s k m (fun _ => l1.flatMap (fun p => placesN s p k m)) i wr) (fun i _ => 60 - (intOf i).toNat)
            case atStart => exact ⟨0, c, Nat.zero_le _, rfl, HX.out, HT'.out, HB.out⟩
            case round =>
              clear HX HT' HB
              obtain ⟨j, c, hj, rfl, hX, hT, hB⟩ := hrel
              have hT : Trk m c (l1.flatMap (fun p => placesN s p k m)) := hT
              have HX := hid hX
              have HT := hid hT
              have HB := hid hB
              clear hX hT hB
              by_cases h1 : j < N1
              · obtain ⟨x, hx⟩ : ∃ x, l1[j]? = some x := ⟨_, List.getElem?_eq_getElem (by rw [HN1.out]; exact h1)⟩
                obtain ⟨ba, oa, ca, hv, _, _, la, sa⟩ := HR1.out j x hx
                injection hv with hA hxx hc
                subst hA hc
                have y0 : wr.cell? ⟨ba, oa + j * 3, none⟩ = some (.int .u64 (x.1.1 : Int)) := (HB.out.cell (p := ⟨ba, oa + j * 3, none⟩) la).trans (sa 0 _ rfl)
                have y1 : wr.cell? ⟨ba, oa + j * 3 + 1, none⟩ = some (.int .u64 (x.1.2 : Int)) := (HB.out.cell (p := ⟨ba, oa + j * 3 + 1, none⟩) la).trans (sa 1 _ rfl)
                have y2 : wr.cell? ⟨ba, oa + j * 3 + 2, none⟩ = some (.int .i64 x.2) := (HB.out.cell (p := ⟨ba, oa + j * 3 + 2, none⟩) la).trans (sa 2 _ rfl)
                have ca := hid (filter_may HX.out x (O1.out j x hx) true (by
                  rw [HT.out.len]
                  exact HT.out.may (HPL.out x) (fun i hi => List.count_pos_iff.2 (List.mem_flatMap.2 ⟨x, List.mem_of_getElem? hx, hi⟩))))
                obtain ⟨⟨x1, x2⟩, x3⟩ := x
                clear sa hxx hx
                go_wp2_with fail
                refine ca.out.mono ?_
                rintro _ w4 ⟨rfl, hb4⟩
                have HX4 := hid (HX.out.below hb4)
                have HB4 := hid (held_next HB.out hb4)
                clear hb4 HX HB ca y0 y1 y2
                go_wp2_with fail
                go_roundw
                case rel => exact ⟨j + 1, c, by omega, by go_num, HX4.out, HT.out, HB4.out⟩
                case measure => simp [intOf]; omega
              · go_wp2_with fail
                go_ret
                exact ⟨rfl, HB.out⟩

theorem filterKeeps_walk (W : World) (s : Int) (ws : (Lit.int .u64 s).wf = true) (k : Int) (_ : (Lit.int .i64 k).wf = true) (m : Int) (_ : (Lit.int .i64 m).wf = true) (v1 : Value) (l1 : List Pf) (R1 : Rd pfEn 3 W v1 l1) (o1 : ∀ p ∈ l1, Pf.fit p) (v2 : Value) (l2 : List Pf) (R2 : Rd pfEn 3 W v2 l2) (o2 : ∀ p ∈ l2, Pf.fit p) :
    Calls Try.prog 3 #[.int .u64 s, .int .i64 k, .int .i64 m, v1, v2] W fun e W' => e = .returned (.bool true) ∧ Below W.heap.size W W' := by
  have hs := wf_u64 ws
  obtain ⟨s, rfl⟩ := Int.eq_ofNat_of_zero_le hs.1
  by_cases h : 1 ≤ k ∧ k ≤ 16 ∧ 1 ≤ m ∧ m ≤ 500 ∧ l1.length ≤ 60 ∧ l2.length ≤ 60
  · obtain ⟨m, rfl⟩ := Int.eq_ofNat_of_zero_le (show 0 ≤ m by omega)
    exact filterKeeps_in W s (by omega) k m h.1 h.2.1 (by omega) (by omega) v1 v2 l1 l2 R1 R2 (fun p hp => (o1 p hp).1) (fun p hp => (o2 p hp).1) h.2.2.2.2.1 h.2.2.2.2.2
  · obtain ⟨A1, c1, rfl, n1, m1⟩ := R1.form
    obtain ⟨A2, c2, rfl, n2, m2⟩ := R2.form
    exact filterKeeps_out W s k m A1 A2 c1 c2 _ _ n1 n2 m1 m2 h

end Go.Proofs.Ytpjjijhojcfmnaa
