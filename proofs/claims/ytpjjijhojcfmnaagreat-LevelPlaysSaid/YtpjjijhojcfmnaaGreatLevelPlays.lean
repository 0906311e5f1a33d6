/-
  The walk of the law LevelPlays: for all inputs it returns true and leaves memory alone. No condition.
-/
import Derived.Test.YtpjjijhojcfmnaaGreatRLevel
import Derived.Test.YtpjjijhojcfmnaaGreatLevelLaw
namespace Go.Proofs.YtpjjijhojcfmnaaGreat
open Go.RowKit
set_option linter.unusedVariables false
set_option linter.unusedSimpArgs false
set_option maxRecDepth 100000

theorem lp_ad_cells : Tryz.prog.cellsOf 36 = 2 := by kernel_rfl
theorem lp_ch_row : (Tryz.prog.info? 40).map (fun i => (i.zero, i.size, i.bytes)) = some (some (.agg #[.int .u64 0, .int .u64 0, .int .i64 0, .int .i64 0, .int .i64 0]), 5, 40) := by kernel_rfl
/-- No level is made of what may not be. -/
theorem lv_new_bad (w : World) (n : Int) (s : Nat) (hs : s < 2 ^ 64) (k m nb : Int) (h : n < 1 ∨ 128 < n ∨ k < 1 ∨ 16 < k ∨ m < 1 ∨ 65536 < m ∨ nb < 1 ∨ 65536 < nb) :
    Calls Tryz.prog 5 #[.int .i64 n, .int .u64 (s : Int), .int .i64 k, .int .i64 m, .int .i64 nb] w fun e w' => e = .returned (.tuple #[.pointer none, .int .i64 1]) ∧ Below w.heap.size w w' := by
  by_cases hn : n < 1 ∨ 128 < n
  · exact lv_new_no w n s k m nb hn
  have d1 : ¬ n < 1 := by omega
  have d2 : ¬ 128 < n := by omega
  by_cases hf : k < 1 ∨ 16 < k ∨ m < 1 ∨ 65536 < m
  · have cF := hid (fun w => filter_new_no s k m hf w)
    go_enter Tryz.func5, Tryz.ntmps5
    go_wp2_with fail
    refine (cF.out _).mono ?_
    rintro _ w1 ⟨rfl, rfl⟩
    go_wp2_with fail
    go_ret2
    exact ⟨rfl, Below.refl _ _⟩
  obtain ⟨m, rfl⟩ := Int.eq_ofNat_of_zero_le (show 0 ≤ m by omega)
  have cF := hid (fun w => filter_new s hs k m (by omega) (by omega) (by omega) (by omega) w)
  have cT := hid (fun w => ck_new_no w (mixN s) nb (by omega))
  have cM := hid (fun w => mix s w)
  unfold FNewPost at cF
  go_enter Tryz.func5, Tryz.ntmps5
  go_wp2_with fail
  refine (cF.out _).mono ?_
  rintro _ w1 ⟨f, FF, rfl, hF, hFF, hb1⟩
  have HB1 := hid hb1
  clear hF hFF hb1 cF
  go_wp2_with fail
  refine (cM.out _).mono ?_
  rintro _ w2 ⟨rfl, rfl⟩
  go_wp2_with fail
  refine (cT.out _).mono ?_
  rintro _ w2 ⟨rfl, hb2⟩
  have HB2 := hid hb2
  clear hb2 cT
  go_wp2_with fail
  go_ret2
  exact ⟨rfl, held_next HB1.out HB2.out⟩
theorem rlv_new_bad (w : World) (n : Int) (s : Nat) (hs : s < 2 ^ 64) (k m nb : Int) (h : n < 1 ∨ 128 < n ∨ k < 1 ∨ 16 < k ∨ m < 1 ∨ 65536 < m ∨ nb < 1 ∨ 65536 < nb) :
    Calls Tryz.prog 6 #[.int .i64 n, .int .u64 (s : Int), .int .i64 k, .int .i64 m, .int .i64 nb] w fun e w' => e = .returned (.tuple #[.pointer none, .int .i64 1]) ∧ Below w.heap.size w w' := by
  by_cases hn : n < 1
  · go_enter Tryz.func6, Tryz.ntmps6
    go_wp2_with fail
    go_ret2
    exact ⟨rfl, Below.refl _ _⟩
  by_cases hn' : 128 < n
  · go_enter Tryz.func6, Tryz.ntmps6
    go_wp2_with fail
    go_ret2
    exact ⟨rfl, Below.refl _ _⟩
  by_cases hf : k < 1 ∨ 16 < k ∨ m < 1 ∨ 65536 < m
  · have cF := hid (fun w => ref_newFilter_no s k m hf w)
    go_enter Tryz.func6, Tryz.ntmps6
    go_wp2_with fail
    refine (cF.out _).mono ?_
    rintro _ w1 ⟨rfl, rfl⟩
    go_wp2_with fail
    go_ret2
    exact ⟨rfl, Below.refl _ _⟩
  obtain ⟨m, rfl⟩ := Int.eq_ofNat_of_zero_le (show 0 ≤ m by omega)
  have cF := hid (fun w => ref_newFilter s hs k m (by omega) (by omega) (by omega) (by omega) w)
  have cT := hid (fun w => rk_new_no w (mixN s) nb (by omega))
  have cM := hid (fun w => ref_mix s w)
  unfold RNewPost at cF
  go_enter Tryz.func6, Tryz.ntmps6
  go_wp2_with fail
  refine (cF.out _).mono ?_
  rintro _ w1 ⟨f, fq, rfl, hF, hff, hfq, hb1⟩
  have HB1 := hid hb1
  clear hF hff hfq hb1 cF
  go_wp2_with fail
  refine (cM.out _).mono ?_
  rintro _ w2 ⟨rfl, rfl⟩
  go_wp2_with fail
  refine (cT.out _).mono ?_
  rintro _ w2 ⟨rfl, hb2⟩
  have HB2 := hid hb2
  clear hb2 cT
  go_wp2_with fail
  go_ret2
  exact ⟨rfl, held_next HB1.out HB2.out⟩

set_option maxHeartbeats 8000000 in
theorem levelPlays_out (W : World) (n : Int) (s : Nat) (k m nb : Int) (A1 : Option Addr) (c1 N : Nat) (h1 : N ≤ c1) (hc1 : c1 ≤ maxLen) (A2 : Option Addr) (c2 M : Nat) (h2 : M ≤ c2) (hc2 : c2 ≤ maxLen) (h : (300 < m ∧ m ≤ 65536) ∨ (20 < nb ∧ nb ≤ 65536) ∨ 60 < N ∨ 30 < M) :
    Calls Tryz.prog 3 #[.int .i64 n, .int .u64 (s : Int), .int .i64 k, .int .i64 m, .int .i64 nb, .slice A1 N c1, .slice A2 M c2] W fun e W' => e = .returned (.bool true) ∧ Below W.heap.size W W' := by
  unfold maxLen at hc1 hc2
  have h' : (300 < m ∧ m ≤ 65536) ∨ ¬ 300 < m ∧ (20 < nb ∧ nb ≤ 65536) ∨ (300 < m ∧ ¬ m ≤ 65536) ∧ (20 < nb ∧ nb ≤ 65536) ∨ ((¬ 300 < m ∨ ¬ m ≤ 65536) ∧ (¬ 20 < nb ∨ ¬ nb ≤ 65536)) ∧ (60 < (N : Int) ∨ ¬ 60 < (N : Int) ∧ 30 < (M : Int)) := by omega
  clear h
  rcases h' with ⟨h3, h4⟩ | ⟨h3, h4, h5⟩ | ⟨⟨h3, h3'⟩, h4, h5⟩ | ⟨⟨h3 | h3, h4 | h4⟩, h5 | ⟨h5, h6⟩⟩
  all_goals
    go_enter Tryz.func3, Tryz.ntmps3
    go_wp2_with fail
    refine (level_alive _).mono ?_
    rintro e w1 ⟨rfl, hb⟩
    have HB1 := hid hb
    clear hb
    go_wp2_with fail
    all_goals
      go_ret
      exact ⟨by simp, HB1.out⟩
set_option maxHeartbeats 8000000 in
theorem levelPlays_bad (W : World) (n : Int) (s : Nat) (hs : s < 2 ^ 64) (k m nb : Int) (A1 : Option Addr) (c1 N : Nat) (h1 : N ≤ c1) (hc1 : c1 ≤ maxLen) (A2 : Option Addr) (c2 M : Nat) (h2 : M ≤ c2) (hc2 : c2 ≤ maxLen) (hg : (m ≤ 300 ∨ 65536 < m) ∧ (nb ≤ 20 ∨ 65536 < nb) ∧ N ≤ 60 ∧ M ≤ 30)
    (h : n < 1 ∨ 128 < n ∨ k < 1 ∨ 16 < k ∨ m < 1 ∨ 65536 < m ∨ nb < 1 ∨ 65536 < nb) :
    Calls Tryz.prog 3 #[.int .i64 n, .int .u64 (s : Int), .int .i64 k, .int .i64 m, .int .i64 nb, .slice A1 N c1, .slice A2 M c2] W fun e W' => e = .returned (.bool true) ∧ Below W.heap.size W W' := by
  unfold maxLen at hc1 hc2
  have c1' := hid fun w => lv_new_bad w n s hs k m nb h
  have c2' := hid fun w => rlv_new_bad w n s hs k m nb h
  clear h hs
  obtain ⟨hm, hnb, hN, hM⟩ := hg
  have d3 : ¬ 60 < (N : Int) := by omega
  have d4 : ¬ 30 < (M : Int) := by omega
  have hm' : m ≤ 300 ∨ 300 < m ∧ 65536 < m := by omega
  have hnb' : nb ≤ 20 ∨ 20 < nb ∧ 65536 < nb := by omega
  clear hm hnb
  rcases hm' with e1 | ⟨e1, e1'⟩ <;> rcases hnb' with e2 | ⟨e2, e2'⟩
  all_goals
    go_enter Tryz.func3, Tryz.ntmps3
    go_wp2_with fail
    refine (level_alive _).mono ?_
    rintro e w1 ⟨rfl, hb⟩
    have HB1 := hid hb
    clear hb
    go_wp2_with fail
    refine (c1'.out _).mono ?_
    rintro _ w2 ⟨rfl, hb2⟩
    have HB2 := hid (held_next HB1.out hb2)
    clear hb2
    go_wp2_with fail
    refine (c2'.out _).mono ?_
    rintro _ w3 ⟨rfl, hb3⟩
    have HB3 := hid (held_next HB2.out hb3)
    clear hb3
    go_wp2_with fail
    refine (law21_num _ _).mono ?_
    rintro _ w4 ⟨rfl, rfl⟩
    go_wp2_with fail
    go_ret
    exact ⟨by simp, HB3.out⟩

/-- Both levels, behind the same changes. -/
structure Lp (W wr : World) (b r n s : Nat) (k : Int) (x : List Nat × Tb) : Prop where
  lv : Lv wr b (fun _ => True) (n : Int) s k x.1 x.2
  rl : RLv wr r (fun _ => True) (n : Int) s k x.1 x.2
  b : Below W.heap.size W wr
theorem Lp.below {W wr w' : World} {b r n s : Nat} {k : Int} {x : List Nat × Tb} (h : Lp W wr b r n s k x) (hb : Below wr.heap.size wr w') : Lp W w' b r n s k x := ⟨h.lv.below hb, h.rl.below hb, held_next h.b hb⟩
def LpD (w3 : World) (xs : List Ch) (v i : Value) (wr : World) : Prop :=
  ∃ j : Nat, j ≤ xs.length ∧ i = .int .i64 j ∧ Owns wr w3.heap.size 40 5 v j ((xs.take j).flatMap chgEn) ∧ Below w3.heap.size w3 wr
def LpEnd (w0 : World) (m : Nat) (i : Value) (wr : World) : Prop := ∃ k : Nat, k ≤ m ∧ i = .int .i64 k ∧ Below w0.heap.size w0 wr

set_option maxHeartbeats 8000000 in
theorem levelPlays_in (W : World) (n : Nat) (hn1 : 1 ≤ n) (hn2 : n ≤ 128) (s : Nat) (hs : s < 2 ^ 64) (k : Int) (hk1 : 1 ≤ k) (hk2 : k ≤ 16) (m : Nat) (hm1 : 1 ≤ m) (hm2 : m ≤ 300) (nb : Nat) (hb1 : 1 ≤ nb) (hb2 : nb ≤ 20)
    (v1 : Value) (xs : List Ch) (R1 : Rd chgEn 5 W v1 xs) (o1 : ∀ x ∈ xs, x.1.1.ok) (hl : xs.length ≤ 60) (v2 : Value) (asx : List Ad) (R2 : Rd adEn 2 W v2 asx) (o2 : ∀ x ∈ asx, x.ok) (hl2 : asx.length ≤ 30) :
    Calls Tryz.prog 3 #[.int .i64 (n : Int), .int .u64 (s : Int), .int .i64 k, .int .i64 (m : Int), .int .i64 (nb : Int), v1, v2] W fun e W' => e = .returned (.bool true) ∧ Below W.heap.size W W' := by
  have HR1 := hid fun k x (h : xs[k]? = some x) => R1.get chgEn_len (by decide) h
  have HR2 := hid fun k x (h : asx[k]? = some x) => R2.get (fun _ => rfl) (by decide) h
  have HR := hid R1
  have O1 := hid o1
  have O2 := hid fun (j : Nat) (x : Ad) (h : asx[j]? = some x) => o2 x (List.mem_of_getElem? h)
  have hI0 := lvNew_ok (s := s) k m nb hb1 (by omega)
  have hI1 := lvRun_ok (a := (List.replicate m 0, newT (mixN s) nb)) hI0 (n : Int) xs o1 xs.length (Nat.le_refl _)
  rw [List.take_length] at hI1
  have HI0 := hid hI0
  have HIL := hid hI1.2
  have HI := hid hI1.1
  have cnew := hid fun w => lv_new w (n : Int) s hs k m nb (by omega) (by omega) hk1 hk2 hm1 (by omega) hb1 (by omega)
  have rnew := hid fun w => rlv_new w (n : Int) s hs k m nb (by omega) (by omega) hk1 hk2 hm1 (by omega) hb1 (by omega)
  unfold LvNew at cnew
  unfold RLvNew at rnew
  obtain ⟨A1, k1, rfl, n1, m1⟩ := R1.form
  obtain ⟨A2, k2, rfl, n2, m2⟩ := R2.form
  have HNB := hid fun (h0 : 0 < xs.length) z (hz : (Value.slice A1 xs.length k1).ownBlock = some z) => show z < W.heap.size from by
    obtain ⟨ba, oa, ca, hv, _, _, la, _⟩ := R1.get chgEn_len (by decide) (List.getElem?_eq_getElem h0)
    injection hv with hA
    subst hA
    injection hz with hz
    have h1 : ba = z := hz
    omega
  unfold maxLen at m1 m2
  obtain ⟨N, hN1⟩ : ∃ N, xs.length = N := ⟨_, rfl⟩
  obtain ⟨M, hM1⟩ : ∃ M, asx.length = M := ⟨_, rfl⟩
  have HN1 := hid hN1
  have HM1 := hid hM1
  have HALL := hid (show xs.take N = xs by rw [← hN1, List.take_length])
  rw [hN1] at n1 hl HNB HR HIL ⊢
  rw [hM1] at n2 hl2 ⊢
  obtain ⟨x0, hx0⟩ : ∃ x0, (List.replicate m 0, newT (mixN s) nb) = x0 := ⟨_, rfl⟩
  rw [hx0] at HI
  have hx1 : List.replicate m 0 = x0.1 := by rw [← hx0]
  have hx2 : newT (mixN s) nb = x0.2 := by rw [← hx0]
  rw [hx1, hx2] at cnew rnew HI0
  clear R1 R2 o1 o2 hN1 hM1 hs hI0 hI1 hx0 hx1 hx2
  have d5 : ¬ (300 < (m : Int)) := by omega
  have d6 : ¬ (20 < (nb : Int)) := by omega
  have d7 : ¬ (60 < (N : Int)) := by omega
  have d8 : ¬ (30 < (M : Int)) := by omega
  go_enter Tryz.func3, Tryz.ntmps3
  go_wp2_with fail
  refine (level_alive _).mono ?_
  rintro e w1 ⟨rfl, hb⟩
  have HB1 := hid hb
  have hsW1 := hb.size
  clear hb
  go_wp2_with fail
  refine (cnew.out _).mono ?_
  rintro _ w2 ⟨b, F, rfl, hL, hF, hb2⟩
  have HL := hid (hL.mono (G := fun z => w1.heap.size ≤ z ∧ z < w2.heap.size) fun z hz hFz => ⟨hF z hFz, hz⟩)
  have HB2 := hid (held_next HB1.out hb2)
  clear hL hF hb2 HB1 cnew
  go_wp2_with fail
  refine (rnew.out _).mono ?_
  rintro _ w3 ⟨r, G, rfl, hR, hG, hb3⟩
  have HRL := hid (hR.mono (G := fun z => w2.heap.size ≤ z ∧ z < w3.heap.size) fun z hz hFz => ⟨hG z hFz, hz⟩)
  have HL3 := hid (HL.out.below hb3)
  have HB3 := hid (held_next HB2.out hb3)
  have hs23 := hb3.size
  have hsW2 := HB2.out.size
  clear hR hG hb3 HL HB2 rnew
  go_wp2_with fail
  refine (law21_num _ _).mono ?_
  rintro _ w4 ⟨rfl, rfl⟩
  go_wp2_with fail
  go_loopw [20, 21] (fun v i wr => LpD w3 xs v i wr) (fun _ i _ => N - (intOf i).toNat)
  case atStart => exact ⟨0, Nat.zero_le _, rfl, Owns.nil _ _ _ _, Below.refl _ _⟩
  case round =>
    obtain ⟨j, hj, rfl, hO, hB⟩ := hrel
    rw [HN1.out] at hj
    obtain ⟨Aq, cd, rfl, hjc, hcm, _⟩ := Owns.form hO
    unfold maxLen at hcm
    by_cases hjn : j < N
    · obtain ⟨x, hx⟩ : ∃ x, xs[j]? = some x := ⟨_, List.getElem?_eq_getElem (by rw [HN1.out]; exact hjn)⟩
      obtain ⟨ba, oa, ca, hv, _, _, la, sa⟩ := HR1.out j x hx
      rw [HN1.out] at hv
      injection hv with hA hxx hc
      subst hA hc
      have HBr := hid (held_next HB3.out hB)
      have z0 := (HBr.out.cell (p := ⟨ba, oa + j * 5, none⟩) la).trans (sa 0 _ rfl)
      have z1 := (HBr.out.cell (p := ⟨ba, oa + j * 5 + 1, none⟩) la).trans (sa 1 _ rfl)
      have z2 := (HBr.out.cell (p := ⟨ba, oa + j * 5 + 2, none⟩) la).trans (sa 2 _ rfl)
      have z3 := (HBr.out.cell (p := ⟨ba, oa + j * 5 + 3, none⟩) la).trans (sa 3 _ rfl)
      have z4 := (HBr.out.cell (p := ⟨ba, oa + j * 5 + 4, none⟩) la).trans (sa 4 _ rfl)
      have HTK := hid (show (xs.take (j + 1)).flatMap chgEn = (xs.take j).flatMap chgEn ++ chgEn x from by
        obtain ⟨h1, h2⟩ := List.getElem?_eq_some_iff.1 hx
        rw [List.take_succ_eq_append_getElem h1, h2, List.flatMap_append]; simp)
      have hj0 : (0 : Int) ≤ (j : Int) := by omega
      have hj1 : (j : Int) < (N : Int) := by omega
      have hsB := hB.size
      clear sa hxx hx
      obtain ⟨⟨⟨x1, x2⟩, x3⟩, x4, x5⟩ := x
      simp only at z0 z1 z2 z3 z4
      go_wp2_with (at_builtin; refine wpList_push rfl _ _ 34 rfl 40 (.agg #[.int .u64 0, .int .u64 0, .int .i64 0, .int .i64 0, .int .i64 0]) 5 40 Tryz.underlying34 lp_ch_row rfl (by decide) w3.heap.size _ j _ rfl hO [.int .u64 (x1 : Int), .int .u64 (x2 : Int), .int .i64 x3, .int .i64 x4, .int .i64 x5] rfl rfl ?c1 ?c2 ?c3 hsB ?_)
      case c1 => first | exact ⟨rfl, rfl, rfl, rfl, rfl⟩ | (intro u hu; simp at hu; rcases hu with rfl | rfl | rfl | rfl | rfl <;> rfl)
      case c2 => unfold maxLen; omega
      case c3 => omega
      intro v' w5 hO5 hC5
      have HB5 := hid (hB.trans (hC5.below hsB (fun g hg k => by have := (hO.base_le g k).1; omega)))
      have HO5 := hid hO5
      clear hO hB hC5 hO5 z0 z1 z2 z3 z4
      go_wp2_with fail
      go_roundw
      case rel => exact ⟨j + 1, by rw [HN1.out]; omega, by go_num, by rw [HTK.out]; exact HO5.out, HB5.out⟩
      case measure => simp [intOf]; omega
    · have hjN : j = N := by omega
      subst hjN
      rw [HALL.out] at hO
      have RD := hid (show Rd chgEn 5 wr (.slice Aq j cd) xs from by
        have h := Rd.of_owns (en := chgEn) (l := xs) (w := wr) (base := w3.heap.size) (e := 40) (v := .slice Aq j cd) (by rw [HN1.out]; exact hO) chgEn_len
        exact h)
      have HVB := hid (fun z hz => hO.base_le z hz)
      have HBW := hid (held_next HB3.out hB)
      have hsw := hB.size
      have cT := hid (lv_Turn (a := x0) (HL3.out.below hB) HI0.out (.slice Aq j cd) xs RD.out O1.out (fun z hz => by
        have := HVB.out z hz
        exact ⟨fun h => by omega, this.2⟩) (by rw [HN1.out]; simp; omega))
      unfold LvTPost at cT
      have HRL4 := hid (HRL.out.below hB)
      clear hO hB HL3 HRL
      go_wp2_with fail
      refine cT.out.mono ?_
      rintro _ w5 ⟨rfl, hL5, hC5⟩
      have HL5 := hid hL5
      have HRL5 := hid (HRL4.out.chg hC5 (fun z hz h h2 => by omega))
      have HBW5 := hid (HBW.out.trans (hC5.below HBW.out.size (fun z hz h => by omega)))
      have hs5 := hC5.size
      have cR := hid (rlv_turn (a := x0) HRL5.out HI0.out (.slice A1 j k1) xs (HR.out.below chgEn_len HBW5.out) O1.out (fun h0 z hz => by
        have := HNB.out (by rw [HN1.out] at h0; exact h0) z hz
        exact fun h => by omega) (by rw [HN1.out]; simp; omega))
      unfold RLvTPost at cR
      clear hL5 hC5 cT HRL4 HVB RD
      go_wp2_with fail
      refine cR.out.mono ?_
      rintro _ w6 ⟨rfl, hR6, hC6⟩
      have HS0 := hid (show Lp W w6 b r n s k (lvRun s k (n : Int) x0 xs) from ⟨(HL5.out.chg hC6 (fun z hz h h2 => by omega)).mono (fun _ _ _ => trivial), hR6.mono (fun _ _ _ => trivial), HBW5.out.trans (hC6.below HBW5.out.size (fun z hz h => by omega))⟩)
      clear hR6 hC6 cR HL5 HRL5 HBW5 HBW HB3 HR HNB
      generalize lvRun s k (n : Int) x0 xs = y at *
      generalize lvRunL (n : Int) [] xs = now at *
      have hnow := HIL.out
      simp only [List.length_nil, Nat.zero_add] at hnow
      go_wp2_with fail
      go_loopw [22] (fun i w' => LpEnd w6 M i w') (fun i _ => M - (intOf i).toNat)
      case atStart => exact ⟨0, Nat.zero_le _, rfl, Below.refl _ _⟩
      case round =>
        obtain ⟨i, hi, rfl, hbr⟩ := hrel
        have HS := hid (HS0.out.below hbr)
        have HBR := hid hbr
        clear hbr
        by_cases hiM : i < M
        · obtain ⟨x, hx⟩ : ∃ x, asx[i]? = some x := ⟨_, List.getElem?_eq_getElem (by rw [HM1.out]; exact hiM)⟩
          obtain ⟨ba, oa, ca, hv, _, _, la, sa⟩ := HR2.out i x hx
          rw [HM1.out] at hv
          injection hv with hA hxx hc
          subst hA hc
          have hok := O2.out i x hx
          have z0 := (HS.out.b.cell (p := ⟨ba, oa + i * 2, none⟩) la).trans (sa 0 _ rfl)
          have z1 := (HS.out.b.cell (p := ⟨ba, oa + i * 2 + 1, none⟩) la).trans (sa 1 _ rfl)
          have HZ := hid (fun (w' : World) (h : Below W.heap.size W w') => show w'.cell? ⟨ba, oa + i * 2, none⟩ = _ ∧ w'.cell? ⟨ba, oa + i * 2 + 1, none⟩ = _ from ⟨(h.cell (p := ⟨ba, oa + i * 2, none⟩) la).trans (sa 0 _ rfl), (h.cell (p := ⟨ba, oa + i * 2 + 1, none⟩) la).trans (sa 1 _ rfl)⟩)
          have cL := hid (lv_look HS.out.lv HI.out (by omega) hn2 (by omega) x hok)
          have cR := hid (fun (w' : World) (h : Below wr.heap.size wr w') => rlv_look (HS.out.below h).rl HI.out (by omega) hn2 (by omega) x hok)
          have hi0 : (0 : Int) ≤ (i : Int) := by omega
          have hi1 : (i : Int) < (M : Int) := by omega
          clear sa hxx hx hok
          obtain ⟨a1, a2⟩ := x
          simp only at z0 z1 cL cR HZ
          generalize valT y.2 (Ad.cut (a1, a2) n, (n : Int)) = VV at *
          generalize hasT y.2 (Ad.cut (a1, a2) n, (n : Int)) = HH at *
          generalize mayB (placesN s (Ad.cut (a1, a2) n, (n : Int)) k (m : Int)) y.1 = MM at *
          go_wp2_with fail
          refine cL.out.mono ?_
          rintro _ w7 ⟨rfl, hb7⟩
          have HB7 := hid hb7
          have HS7 := hid (HS.out.below hb7)
          clear hb7 cL z0 z1
          obtain ⟨z0, z1⟩ := HZ.out _ HS7.out.b
          go_wp2_with fail
          refine (cR.out _ HB7.out).mono ?_
          rintro _ w8 ⟨rfl, hb8⟩
          have HB8 := hid (held_next (held_next HBR.out HB7.out) hb8)
          clear hb8 cR z0 z1 HB7 HS7 HS
          go_wp2_with fail
          go_roundw
          case rel => exact ⟨i + 1, by omega, by go_num, HB8.out⟩
          case measure => simp [intOf]; omega
        · have hiq : i = M := Nat.le_antisymm hi (Nat.not_lt.1 hiM)
          subst hiq
          have cK := hid (lv_keys (HS.out.below (Below.refl wr.heap.size wr).drew).lv HI.out (by omega))
          obtain ⟨f, g, FF, TF, hQ⟩ := HS.out.rl
          have HQ := hid hQ
          have y2 := hQ.top.cellv (i := 2) rfl
          have yr := y2
          have hlr := hQ.top.lt
          have cA := hid (fun (w' : World) (h : Below wr.heap.size wr w') => rk_all (HQ.out.below h).tab HI.out.ok (by rw [HI.out.rep.len]; omega) now HI.out.rep)
          have cB := hid (fun (w' : World) (h : Below wr.heap.size wr w') => lv_bits (HS.out.below h).lv)
          have cS := hid (fun (w' : World) (u1 u2 : Value) (h1 : Rd rtEn 4 w' u1 now) (h2 : Rd rtEn 4 w' u2 now) => ref_sameRts w' u1 u2 now now h1 h2 true (by simp))
          clear hQ hiM
          go_wp2_with fail
          go_region_held3 (fun w' => w'.cell? ⟨r, 2, none⟩ = some (.pointer (some ⟨g, 0, none⟩))) (first | go_keep | assumption)
            (first
              | (with_reducible refine cK.out.mono ?_
                 rintro _ wA ⟨vA, rfl, hOA, hbA'⟩
                 have HBA := hid (show Below wr.heap.size wr wA from (Below.refl wr.heap.size wr).drew.trans hbA')
                 have HOA := hid hOA
                 obtain ⟨AA, cA', hvA⟩ := hOA.form
                 subst hvA
                 have y2 := (HBA.out.cell (p := ⟨r, 2, none⟩) hlr).trans yr
                 clear hbA' hOA)
              | (with_reducible refine (cA.out wA HBA.out).mono ?_
                 rintro _ wB ⟨vB, rfl, hOB, hbB⟩
                 have HBB := hid (held_next HBA.out hbB)
                 have HRA := hid (HOA.out.rd.below rtEn_length hbB)
                 have HRB := hid hOB.rd
                 obtain ⟨AB, cB', hvB⟩ := hOB.form
                 subst hvB
                 have y2 := (HBB.out.cell (p := ⟨r, 2, none⟩) hlr).trans yr
                 clear hbB hOB)
              | (with_reducible refine (cS.out wB _ _ HRA.out HRB.out).mono ?_
                 rintro _ wC ⟨rfl, hbC⟩
                 have HBC := hid (held_next HBB.out hbC)
                 have y2 := (HBC.out.cell (p := ⟨r, 2, none⟩) hlr).trans yr
                 clear hbC)
              | (with_reducible refine (cB.out wC HBC.out).mono ?_
                 rintro _ wD ⟨rfl, rfl⟩))
          all_goals
            go_wp2_with fail
            go_ret
            exact ⟨by simp, HS0.out.b.trans ((HBR.out.trans (HBC.out.mono HBR.out.size)).mono HS0.out.b.size)⟩
theorem levelPlays_walk (W : World) (n : Int) (wn : (Lit.int .i64 n).wf = true) (s : Int) (ws : (Lit.int .u64 s).wf = true) (k : Int) (wk : (Lit.int .i64 k).wf = true) (m : Int) (wm : (Lit.int .i64 m).wf = true) (nb : Int) (wnb : (Lit.int .i64 nb).wf = true) (v1 : Value) (xs : List Ch) (R1 : Rd chgEn 5 W v1 xs) (o1 : ∀ x ∈ xs, Ch.fit x) (v2 : Value) (asx : List Ad) (R2 : Rd adEn 2 W v2 asx) (o2 : ∀ x ∈ asx, x.ok) :
    Calls Tryz.prog 3 #[.int .i64 n, .int .u64 s, .int .i64 k, .int .i64 m, .int .i64 nb, v1, v2] W fun e W' => e = .returned (.bool true) ∧ Below W.heap.size W W' := by
  have hs := wf_u64 ws
  obtain ⟨z, rfl⟩ := Int.eq_ofNat_of_zero_le hs.1
  have hz : z < 2 ^ 64 := by omega
  by_cases h : (300 < m ∧ m ≤ 65536) ∨ (20 < nb ∧ nb ≤ 65536) ∨ 60 < xs.length ∨ 30 < asx.length
  · obtain ⟨A, c, rfl, h1, h2⟩ := R1.form
    obtain ⟨A2, c2, rfl, h3, h4⟩ := R2.form
    exact levelPlays_out W n z k m nb A c _ h1 h2 A2 c2 _ h3 h4 h
  by_cases h' : n < 1 ∨ 128 < n ∨ k < 1 ∨ 16 < k ∨ m < 1 ∨ 65536 < m ∨ nb < 1 ∨ 65536 < nb
  · obtain ⟨A, c, rfl, h1, h2⟩ := R1.form
    obtain ⟨A2, c2, rfl, h3, h4⟩ := R2.form
    exact levelPlays_bad W n z hz k m nb A c _ h1 h2 A2 c2 _ h3 h4 (by omega) h'
  · obtain ⟨n, rfl⟩ := Int.eq_ofNat_of_zero_le (show 0 ≤ n by omega)
    obtain ⟨m, rfl⟩ := Int.eq_ofNat_of_zero_le (show 0 ≤ m by omega)
    obtain ⟨nb, rfl⟩ := Int.eq_ofNat_of_zero_le (show 0 ≤ nb by omega)
    exact levelPlays_in W n (by omega) (by omega) z hz k (by omega) (by omega) m (by omega) (by omega) nb (by omega) (by omega) v1 xs R1 (fun x hx => (o1 x hx).1.1) (by omega) v2 asx R2 o2 (by omega)

end Go.Proofs.YtpjjijhojcfmnaaGreat
