/-
  The law WalkTells: any routes are told in order, however many at a time. No condition.
-/
import Derived.Test.YtcchjljdhjkmeaaCursor
import Derived.Test.YtcchjljdhjkmeaaOrd
import Derived.Test.YtcchjljdhjkmeaaSliceOp
namespace Go.Proofs.Ytcchjljdhjkmeaa
open Go.RowKit
set_option linter.unusedVariables false
set_option linter.unusedSimpArgs false
set_option maxRecDepth 100000
attribute [local go_sem high] slice_lo_rt slice_hi_rt

theorem rd_one (w : World) (g : Nat) (r : Rt) (h : Blk w g 39 [.int .u64 (r.1.1.1 : Int), .int .u64 (r.1.1.2 : Int), .int .i64 r.1.2, .int .i64 r.2]) : Rd rtEn 4 w (.slice (some ⟨g, 0, none⟩) 1 1) [r] :=
  Rd.of_blk (l := [r]) h rtEn_length (by unfold maxLen; simp)

theorem walk_alive (W : World) : Calls Try.prog 10 #[] W fun e w' => e = .returned (.bool true) ∧ Below W.heap.size W w' := by
  have cS := hid (fun (w : World) (g : Nat) (h : Blk w g 39 [.int .u64 0, .int .u64 0, .int .i64 0, .int .i64 3]) => walk_start w _ [(((0, 0), 0), 3)] (rd_one w g (((0, 0), 0), 3) h) (by simp))
  have cN := hid (fun (w : World) => walk_start w (.slice none 0 0) [] (Rd.nil w) (by simp))
  have e1 : sortedL [(((0, 0), 0), 3)] = [(((0, 0), 0), 3)] := rfl
  have e2 : sortedL [] = [] := rfl
  rw [e1] at cS
  rw [e2] at cN
  go_enter Try.func10, Try.ntmps10
  go_wp2_with fail
  refine (cS.out _ W.heap.size ?_).mono ?_
  · exact heap_alloc_new W _
  rintro _ w1 ⟨g, rfl, hC, hg, hb1⟩
  have HB1 := hid (Below.trans (b := _) ((Below.refl W.heap.size W).alloc (Nat.le_refl _) _) (hb1.mono (by simp)))
  have HC := hid hC
  have HG0 := hid hg
  clear hC hg hb1 cS
  go_wp2_with fail
  refine (cN.out _).mono ?_
  rintro _ w2 ⟨g2, rfl, hC2, hg2, hb2⟩
  have HB2 := hid (held_next HB1.out hb2)
  have HG := hid (show W.heap.size ≤ g by have := HG0.out; simp at this; omega)
  have HC1 := hid (HC.out.chg hb2)
  have cL := hid (cur_left hC2)
  have cX := hid (fun (w' : World) (h : Below w2.heap.size w2 w') => cur_next (HC1.out.chg h) (by simp) 1 1 (by decide))
  clear hC2 hg2 hb2 cN HC HB1
  go_wp2_with fail
  refine cL.out.mono ?_
  rintro _ w3 ⟨rfl, rfl⟩
  clear cL
  go_wp2_with fail
  refine (cX.out _ (Below.refl _ _)).mono ?_
  rintro _ w4 ⟨v4, rfl, hO4, hC4, hb4⟩
  obtain ⟨A, cap, rfl⟩ := hO4.form
  obtain ⟨b, o, c, hv, _, _, _, sa⟩ := hO4.rd.get rtEn_length (by decide) (k := 0) (x := (((0, 0), 0), 3)) rfl
  injection hv with h1 _ _
  subst h1
  have y3 : w4.cell? ⟨b, o + 3, none⟩ = some (.int .i64 3) := by simpa using sa 3 _ rfl
  have HF := hid (show Below W.heap.size W w4 from HB2.out.trans (hb4.below HB2.out.size (fun i hi e => by have := HG.out; omega)))
  clear sa hO4 hC4 hb4 cX
  go_wp2_with fail
  go_ret
  exact ⟨rfl, HF.out⟩

theorem ref_capN (x : Int) (N k : Nat) (h : (k : Int) = max 0 (min x (N : Int))) (w : World) : Calls Try.prog 15 #[.int .i64 x, .int .i64 0, .int .i64 (N : Int)] w fun e w' => e = .returned (.int .i64 (k : Int)) ∧ w = w' := by
  have e : (if x < 0 then (0 : Int) else if (N : Int) < x then (N : Int) else x) = (k : Int) := by split <;> (try split) <;> omega
  have h := ref_cap x 0 (N : Int) w
  rw [e] at h; exact h
/-- Behind j numbers: these routes are still wanted, and the walker has just them left. -/
def WtRel (W : World) (m g : Nat) (v i : Value) (wr : World) : Prop :=
  ∃ (j : Nat) (L : List Rt), j ≤ m ∧ i = .int .i64 j ∧ Rd rtEn 4 wr v L ∧ (∀ z, v.ownBlock = some z → z ≠ g) ∧ L.length ≤ 80 ∧ CurA wr g L ∧ W.heap.size ≤ g ∧ Below W.heap.size W wr

theorem walkTells_out (W : World) (A : Option Addr) (n cap : Nat) (hn : n ≤ cap) (hc : cap ≤ maxLen) (B : Option Addr) (m cap2 : Nat) (hm : m ≤ cap2) (hc2 : cap2 ≤ maxLen) (h : ¬ (n ≤ 80 ∧ m ≤ 80)) :
    Calls Try.prog 3 #[.slice A n cap, .slice B m cap2] W fun e W' => e = .returned (.bool true) ∧ Below W.heap.size W W' := by
  unfold maxLen at hc hc2
  go_enter Try.func3, Try.ntmps3
  go_wp2_with fail
  refine (walk_alive _).mono ?_
  rintro _ w1 ⟨rfl, hb⟩
  have HB := hid hb
  clear hb
  by_cases h1 : n ≤ 80
  · have c1 : ¬ (n : Int) > 80 := by omega
    have c2 : (m : Int) > 80 := by omega
    clear h h1
    go_wp2_with fail
    go_ret
    exact ⟨rfl, HB.out⟩
  · have c1 : (n : Int) > 80 := by omega
    clear h h1
    go_wp2_with fail
    go_ret
    exact ⟨rfl, HB.out⟩

set_option maxHeartbeats 1000000 in
theorem walkTells_in (W : World) (v : Value) (l : List Rt) (R1 : Rd rtEn 4 W v l) (v2 : Value) (ns : List Int) (R2 : Rd iEn 1 W v2 ns) (hl : l.length ≤ 80) (hm : ns.length ≤ 80) :
    Calls Try.prog 3 #[v, v2] W fun e W' => e = .returned (.bool true) ∧ Below W.heap.size W W' := by
  have HR2 := hid fun k x (h : ns[k]? = some x) => R2.get iEn_len (by decide) h
  have HR1 := hid R1
  obtain ⟨A, cap, rfl, n1, m1⟩ := R1.form
  obtain ⟨B, cap2, rfl, n2, m2⟩ := R2.form
  unfold maxLen at m1 m2
  have cA := hid (walk_alive W)
  have cS := hid (fun (w' : World) (h : Below W.heap.size W w') => ref_sorted w' _ l (HR1.out.below rtEn_length h) (by omega))
  have cW := hid (fun (w' : World) (v' : Value) (h : Rd rtEn 4 w' v' l) => walk_sorted w' v' l h (by omega))
  have cT := hid (fun (w' : World) (v' : Value) (h : Rd rtEn 4 w' v' l) => walk_start w' v' l h (by omega))
  have HLE := hid (sorted_le l)
  generalize sortedL l = K at cS cW cT HLE
  clear R1 R2
  have c1 : ¬ (l.length : Int) > 80 := by omega
  have c2 : ¬ (ns.length : Int) > 80 := by omega
  have HL := hid hl
  have HM := hid hm
  obtain ⟨n, hn⟩ : ∃ n, l.length = n := ⟨_, rfl⟩
  obtain ⟨m, hm'⟩ : ∃ m, ns.length = m := ⟨_, rfl⟩
  have HN := hid hn
  have HMM := hid hm'
  rw [hn] at n1 c1 HR1 cS ⊢
  rw [hm'] at n2 c2 hm ⊢
  rw [hn] at hl HLE
  clear hn hm'
  go_enter Try.func3, Try.ntmps3
  go_wp2_with fail
  refine cA.out.mono ?_
  rintro _ w1 ⟨rfl, hb1⟩
  have HB1 := hid hb1
  clear hb1 cA
  go_wp2_with fail
  refine (cS.out _ HB1.out).mono ?_
  rintro _ w2 ⟨v2, rfl, hO2, hb2⟩
  have HB2 := hid (held_next HB1.out hb2)
  have HRK2 := hid hO2.rd
  have HOK2 := hid (fun z hz => (Owns.base_le hO2 z hz).2)
  have HRl2 := hid (HR1.out.below rtEn_length HB2.out)
  clear hO2 hb2 cS HB1
  go_wp2_with (at_builtin; refine wpList_append_rd rfl (.const (.slice none 0 0)) _ 22 rfl 39 _ 4 32 Try.underlying22 rt_row rfl (by decide) w2.heap.size _ 0 [] rfl (Owns.nil _ _ _ _) _ rfl l HRl2.out rtEn_length cells_rt ?c1 ?c2 ?c3 ?_)
  case c1 => rw [HN.out]; unfold maxLen; omega
  case c2 => rw [HN.out]; omega
  case c3 => omega
  intro v3 w3 hO3 hC3
  have hb3 : Below w2.heap.size w2 w3 := hC3.below (Nat.le_refl _) (fun i hi h => by simp [Value.ownBlock] at h)
  have HB3 := hid (held_next HB2.out hb3)
  have HRK3 := hid (HRK2.out.below rtEn_length hb3)
  have cW3 := hid (cW.out w3 v3 (Rd.of_owns (by simpa using hO3) rtEn_length))
  have HS3 := hid (fun z hz => Nat.lt_of_lt_of_le (HOK2.out z hz) hb3.size)
  clear hO3 hC3 hb3 HRl2 HRK2 HOK2 HB2
  go_wp2_with fail
  refine cW3.out.mono ?_
  rintro _ w4 ⟨v4, rfl, hO4, hb4⟩
  have HB4 := hid (held_next HB3.out hb4)
  have HRK4 := hid (HRK3.out.below rtEn_length hb4)
  have cE := hid (ref_sameRts w4 v4 v2 K K hO4.rd HRK4.out true (by simp))
  have HS4 := hid (fun z hz => Nat.lt_of_lt_of_le (HS3.out z hz) hb4.size)
  clear hO4 hb4 cW3 HRK3 HB3 HS3
  go_wp2_with fail
  refine cE.out.mono ?_
  rintro _ w5 ⟨rfl, hb5⟩
  have HB5 := hid (held_next HB4.out hb5)
  have HRK5 := hid (HRK4.out.below rtEn_length hb5)
  have HRl5 := hid (HR1.out.below rtEn_length HB5.out)
  have HS5 := hid (fun z hz => Nat.lt_of_lt_of_le (HS4.out z hz) hb5.size)
  clear hb5 cE HRK4 HB4 HS4
  go_wp2_with (at_builtin; refine wpList_append_rd rfl (.const (.slice none 0 0)) _ 22 rfl 39 _ 4 32 Try.underlying22 rt_row rfl (by decide) w5.heap.size _ 0 [] rfl (Owns.nil _ _ _ _) _ rfl l HRl5.out rtEn_length cells_rt ?c1 ?c2 ?c3 ?_)
  case c1 => rw [HN.out]; unfold maxLen; omega
  case c2 => rw [HN.out]; omega
  case c3 => omega
  intro v6 w6 hO6 hC6
  have hb6 : Below w5.heap.size w5 w6 := hC6.below (Nat.le_refl _) (fun i hi h => by simp [Value.ownBlock] at h)
  have HB6 := hid (held_next HB5.out hb6)
  have HRK6 := hid (HRK5.out.below rtEn_length hb6)
  have cT6 := hid (cT.out w6 v6 (Rd.of_owns (by simpa using hO6) rtEn_length))
  have HS6 := hid (fun z hz => Nat.lt_of_lt_of_le (HS5.out z hz) hb6.size)
  clear hO6 hC6 hb6 HRl5 HRK5 HB5 HS5
  go_wp2_with fail
  refine cT6.out.mono ?_
  rintro _ w7 ⟨g, rfl, hC7, hg, hb7⟩
  have HB7 := hid (held_next HB6.out hb7)
  have HRK7 := hid (HRK6.out.below rtEn_length hb7)
  have HC7 := hid hC7
  have HG := hid (show W.heap.size ≤ g from Nat.le_trans HB6.out.size hg)
  have HVG := hid (fun z hz => show z ≠ g from fun e => by have := HS6.out z hz; omega)
  clear hC7 hg hb7 cT6 HRK6 HB6 HS6
  go_wp2_with fail
  go_loopw [6, 8] (fun v i wr => WtRel W m g v i wr) (fun _ i _ => m - (intOf i).toNat)
  case atStart => exact ⟨0, K, Nat.zero_le _, rfl, HRK7.out, HVG.out, by have := HLE.out; omega, HC7.out, HG.out, HB7.out⟩
  case round =>
    obtain ⟨j, L, hj, rfl, hR, hv, hLl, hC, _, hB⟩ := hrel
    clear HRK7 HVG HC7 HB7
    obtain ⟨N, hN⟩ : ∃ N, L.length = N := ⟨_, rfl⟩
    obtain ⟨A', cap', rfl, n3, m3⟩ := hR.form
    unfold maxLen at m3
    rw [hN] at hR hv hLl n3 ⊢
    have HRL := hid hR
    have HCU := hid hC
    have HBW := hid hB
    have HV := hid hv
    have HNL := hid hN
    have cL := hid (fun (w' : World) (h : Below wr.heap.size wr w') => cur_left (hC.chg h))
    rw [hN] at cL
    clear hR hv hC hB hN
    have hNI : (N : Int) ≤ 80 := by omega
    by_cases hjm : j < m
    · obtain ⟨x, hx⟩ : ∃ x, ns[j]? = some x := ⟨_, List.getElem?_eq_getElem (by rw [HMM.out]; exact hjm)⟩
      obtain ⟨b, o, c, hvv, _, _, lb, sa⟩ := HR2.out j x hx
      injection hvv with h1 h2 h3
      subst h1 h3
      have y : wr.cell? ⟨b, o + j, none⟩ = some (.int .i64 x) := by
        have := sa 0 _ rfl
        rw [Nat.mul_one, Nat.add_zero] at this
        exact (HBW.out.cell (p := ⟨b, o + j, none⟩) lb).trans this
      obtain ⟨k, hk⟩ : ∃ k : Nat, (k : Int) = max 0 (min x (N : Int)) := ⟨(max 0 (min x (N : Int))).toNat, by omega⟩
      have hkn : k ≤ N := by omega
      have cC := hid (ref_capN x N k hk)
      have cX := hid (fun (w' : World) (h : Below wr.heap.size wr w') => cur_next (HCU.out.chg h) (by rw [HNL.out]; omega) x k (by rw [HNL.out]; exact hk))
      have HK := hid hkn
      have j0 : (0 : Int) ≤ (j : Int) := by omega
      have j1 : (j : Int) < (m : Int) := by omega
      have k0 : (0 : Int) ≤ (k : Int) := by omega
      have k1 : (k : Int) ≤ (cap' : Int) := by omega
      have k2 : (k : Int) ≤ (N : Int) := by omega
      have HB0 := hid (show b < W.heap.size from lb)
      clear hk sa hx hkn lb
      go_wp2_with fail
      refine (cC.out _).mono ?_
      rintro _ w9 ⟨rfl, rfl⟩
      go_wp2_with fail
      have hS : wr.drew.cell? ⟨b, o + j, none⟩ = some (.int .i64 x) := y
      refine wp_region_ord (fun w' => w'.cell? ⟨b, o + j, none⟩ = some (.int .i64 x)) (by kernel_rfl) hS ?_
      refine ord_still 0 rfl (v := ?_) (by kernel_rfl) (fun _ _ _ h => h) rfl (fun W hW => ?_) hS ?_
      rotate_left
      · try dsimp only at hW
        go_simp
        try with_reducible rfl
      simp only [Act.put, List.setIfInBounds_toArray, List.set_cons_zero, List.set_cons_succ]
      refine ord_still 2 rfl (v := ?_) (by kernel_rfl) (fun _ _ _ h => h) rfl (fun W hW => ?_) hS ?_
      rotate_left
      · try dsimp only at hW
        go_simp
        try with_reducible rfl
      simp only [Act.put, List.setIfInBounds_toArray, List.set_cons_zero, List.set_cons_succ]
      refine ord_still 3 rfl (v := ?_) (by kernel_rfl) (fun _ _ _ h => h) rfl (fun W hW => ?_) hS ?_
      rotate_left
      · try dsimp only at hW
        go_simp
        try with_reducible rfl
      simp only [Act.put, List.setIfInBounds_toArray, List.set_cons_zero, List.set_cons_succ]
      refine ord_alone 1 rfl (by kernel_rfl) rfl (fun K hK => ?_)
      go_simp
      refine (cL.out _ ((Below.refl _ _).drew)).mono ?_
      rintro _ w10 ⟨rfl, rfl⟩
      refine hK.out _ _ hS ?_
      clear hK
      refine ord_still 4 rfl (v := ?_) (by kernel_rfl) (fun _ _ _ h => h) rfl (fun W hW => ?_) hS ?_
      rotate_left
      · try dsimp only at hW
        go_simp
        try with_reducible rfl
      simp only [Act.put, List.setIfInBounds_toArray, List.set_cons_zero, List.set_cons_succ]
      refine ord_still 5 rfl (v := ?_) (by kernel_rfl) (fun _ _ _ h => h) rfl (fun W hW => ?_) hS ?_
      rotate_left
      · try dsimp only at hW
        go_simp
        try with_reducible rfl
      simp only [Act.put, List.setIfInBounds_toArray, List.set_cons_zero, List.set_cons_succ]
      refine ord_still 6 rfl (v := ?_) (by kernel_rfl) (fun _ _ _ h => h) rfl (fun W hW => ?_) hS ?_
      rotate_left
      · try dsimp only at hW
        go_simp
        try with_reducible rfl
      simp only [Act.put, List.setIfInBounds_toArray, List.set_cons_zero, List.set_cons_succ]
      refine ord_still 7 rfl (v := ?_) (by kernel_rfl) (fun _ _ _ h => h) rfl (fun W hW => ?_) hS ?_
      rotate_left
      · try dsimp only at hW
        go_simp
        try with_reducible rfl
      simp only [Act.put, List.setIfInBounds_toArray, List.set_cons_zero, List.set_cons_succ]
      refine ord_still 8 rfl (v := ?_) (by kernel_rfl) (fun _ _ _ h => h) rfl (fun W hW => ?_) hS ?_
      rotate_left
      · try dsimp only at hW
        go_simp
        try with_reducible rfl
      simp only [Act.put, List.setIfInBounds_toArray, List.set_cons_zero, List.set_cons_succ]
      refine ord_still 9 rfl (v := ?_) (by kernel_rfl) (fun _ _ _ h => h) rfl (fun W hW => ?_) hS ?_
      rotate_left
      · try dsimp only at hW
        go_simp
        try with_reducible rfl
      simp only [Act.put, List.setIfInBounds_toArray, List.set_cons_zero, List.set_cons_succ]
      refine ord_still 10 rfl (v := ?_) (by kernel_rfl) (fun _ _ _ h => h) rfl (fun W hW => ?_) hS ?_
      rotate_left
      · try dsimp only at hW
        go_simp
        try with_reducible rfl
      simp only [Act.put, List.setIfInBounds_toArray, List.set_cons_zero, List.set_cons_succ]
      refine ord_still 12 rfl (v := ?_) (by kernel_rfl) (fun _ _ _ h => h) rfl (fun W hW => ?_) hS ?_
      rotate_left
      · try dsimp only at hW
        go_simp
        try with_reducible rfl
      simp only [Act.put, List.setIfInBounds_toArray, List.set_cons_zero, List.set_cons_succ]
      refine ord_still 13 rfl (v := ?_) (by kernel_rfl) (fun _ _ _ h => h) rfl (fun W hW => ?_) hS ?_
      rotate_left
      · try dsimp only at hW
        go_simp
        try with_reducible rfl
      simp only [Act.put, List.setIfInBounds_toArray, List.set_cons_zero, List.set_cons_succ]
      refine ord_still 14 rfl (v := ?_) (by kernel_rfl) (fun _ _ _ h => h) rfl (fun W hW => ?_) hS ?_
      rotate_left
      · try dsimp only at hW
        go_simp
        try with_reducible rfl
      simp only [Act.put, List.setIfInBounds_toArray, List.set_cons_zero, List.set_cons_succ]
      refine ord_alone 11 rfl (by kernel_rfl) rfl (fun K hK => ?_)
      go_simp
      refine (cX.out _ ((Below.refl _ _).drew)).mono ?_
      rintro _ w11 ⟨v11, rfl, hO11, hC11, hb11⟩
      have hn11 : Chg (· = g) wr w11 := (Chg.refl _ _).drew.trans' hb11
      clear hS
      have hS : w11.cell? ⟨b, o + j, none⟩ = some (.int .i64 x) := (hn11.cell (b := b) (by have := HBW.out.size; have := HB0.out; omega) (by have := HG.out; have := HB0.out; omega) _).trans y
      have HR11 := hid (HRL.out.chg rtEn_length hn11 (fun z hz => HV.out z hz))
      have HW11 := hid (HBW.out.trans (hn11.below HBW.out.size (fun i hi e => by have := HG.out; omega)))
      have HC11 := hid hC11
      have cE := hid (ref_sameRts w11 v11 _ _ _ hO11.rd (HR11.out.takeS k (by rw [HNL.out]; exact HK.out)) true (by simp))
      clear hO11 hC11 hb11 hn11 cX cL y
      refine hK.out _ _ hS ?_
      clear hK
      refine ord_alone 15 rfl (by kernel_rfl) rfl (fun K hK => ?_)
      go_simp
      refine cE.out.mono ?_
      rintro _ w12 ⟨rfl, hb12⟩
      have HR12 := hid (HR11.out.below rtEn_length hb12)
      have HC12 := hid (HC11.out.chg hb12)
      have HW12 := hid (held_next HW11.out hb12)
      have hS2 : w12.cell? ⟨b, o + j, none⟩ = some (.int .i64 x) := (hb12.cell (p := ⟨b, o + j, none⟩) (World.block_lt_of_cell? w11 _ hS)).trans hS
      clear cE hb12 hS
      have hS := hS2
      clear hS2
      refine hK.out _ _ hS ?_
      clear hK
      refine ord_still 16 rfl (v := ?_) (by kernel_rfl) (fun _ _ _ h => h) rfl (fun W hW => ?_) hS ?_
      rotate_left
      · try dsimp only at hW
        go_simp
        try with_reducible rfl
      simp only [Act.put, List.setIfInBounds_toArray, List.set_cons_zero, List.set_cons_succ]
      refine ord_still 17 rfl (v := ?_) (by kernel_rfl) (fun _ _ _ h => h) rfl (fun W hW => ?_) hS ?_
      rotate_left
      · try dsimp only at hW
        go_simp
        try with_reducible rfl
      simp only [Act.put, List.setIfInBounds_toArray, List.set_cons_zero, List.set_cons_succ]
      refine ord_done (by kernel_rfl) ?_
      clear hS
      have HD := hid (HR12.out.dropA k (by rw [HNL.out]; exact HK.out))
      go_wp2_with fail
      go_roundw
      case rel => exact ⟨j + 1, L.drop k, hjm, by go_num, HD.out, fun z hz => HV.out z (dropA_own z hz), by rw [List.length_drop, HNL.out]; omega, HC12.out, HG.out, HW12.out⟩
      case measure => simp [intOf]; omega
    · have c3 : ¬ (j : Int) < (m : Int) := by omega
      go_wp2_with fail
      refine (cL.out _ (Below.refl _ _)).mono ?_
      rintro _ w12 ⟨rfl, rfl⟩
      go_wp2_with fail
      go_ret
      exact ⟨rfl, HBW.out⟩

theorem walkTells_walk (W : World) (v : Value) (l : List Rt) (R1 : Rd rtEn 4 W v l) (ok1 : ∀ x ∈ l, Rt.fit x) (v2 : Value) (ns : List Int) (R2 : Rd iEn 1 W v2 ns) (ok2 : ∀ x ∈ ns, (Lit.int .i64 x).wf = true) :
    Calls Try.prog 3 #[v, v2] W fun e W' => e = .returned (.bool true) ∧ Below W.heap.size W W' := by
  by_cases h : l.length ≤ 80 ∧ ns.length ≤ 80
  · exact walkTells_in W v l R1 v2 ns R2 h.1 h.2
  · obtain ⟨A, cap, rfl, n1, m1⟩ := R1.form
    obtain ⟨B, cap2, rfl, n2, m2⟩ := R2.form
    exact walkTells_out W A _ cap n1 m1 B _ cap2 n2 m2 h

end Go.Proofs.Ytcchjljdhjkmeaa
