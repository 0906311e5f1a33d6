/-
  The law DeltaTurns: what turned makes the one set of the other one, and just what is unlike turned. No condition.
-/
import Derived.Test.YtcchjljdhjkmeaaDeltaLaw
namespace Go.Proofs.Ytcchjljdhjkmeaa
open Go.RowKit
set_option linter.unusedVariables false
set_option linter.unusedSimpArgs false
set_option maxRecDepth 100000
attribute [local go_sem high] eq_ad eq_pf

theorem deltaTurns_out (W : World) (A : Option Addr) (n cap : Nat) (hn : n ≤ cap) (hc : cap ≤ maxLen) (B : Option Addr) (m cap2 : Nat) (hm : m ≤ cap2) (hc2 : cap2 ≤ maxLen) (h : ¬ (n ≤ 40 ∧ m ≤ 40)) :
    Calls Try.prog 4 #[.slice A n cap, .slice B m cap2] W fun e W' => e = .returned (.bool true) ∧ Below W.heap.size W W' := by
  unfold maxLen at hc hc2
  go_enter Try.func4, Try.ntmps4
  go_wp2_with fail
  refine (delta_alive _).mono ?_
  rintro _ w1 ⟨rfl, hb⟩
  have HB := hid hb
  clear hb
  by_cases h1 : n ≤ 40
  · have c1 : ¬ (n : Int) > 40 := by omega
    have c2 : (m : Int) > 40 := by omega
    clear h h1
    go_wp2_with fail
    go_ret
    exact ⟨rfl, HB.out⟩
  · have c1 : (n : Int) > 40 := by omega
    clear h h1
    go_wp2_with fail
    go_ret
    exact ⟨rfl, HB.out⟩

/-- The first j have no hop below 0. -/
def NNj (l : List Rt) (j : Nat) : Prop := ∀ k r, k < j → l[k]? = some r → 0 ≤ r.2
theorem NNj.succ {l : List Rt} {j : Nat} (h : NNj l j) {r : Rt} (hr : l[j]? = some r) (h0 : 0 ≤ r.2) : NNj l (j + 1) := fun k x hk hx => by
  rcases Nat.lt_succ_iff_lt_or_eq.1 hk with hk | rfl
  · exact h k x hk hx
  · rw [hr] at hx; injection hx with hx; subst hx; exact h0
theorem NNj.past {l : List Rt} {j : Nat} (h : NNj l j) (hj : l.length ≤ j) (m : Nat) : NNj l m := fun k x hk hx => h k x (by have := (List.getElem?_eq_some_iff.1 hx).1; omega) hx
theorem NNj.all {l : List Rt} {j : Nat} (h : NNj l j) (hj : l.length ≤ j) : NN l := fun r hr => by
  obtain ⟨k, hk⟩ := List.getElem?_of_mem hr
  exact h k r (by have := (List.getElem?_eq_some_iff.1 hk).1; omega) hk
def DtRel1 (l1 l2 : List Rt) (w1 : World) (i : Value) (wr : World) : Prop := ∃ j : Nat, i = .int .i64 j ∧ j ≤ 40 ∧ NNj l1 j ∧ NNj l2 j ∧ wr = w1
def DtRel2 (w3 : World) (A B : List Rt) (v i : Value) (wr : World) : Prop := ∃ (j : Nat) (now : List Rt), i = .int .i64 j ∧ j ≤ (mergeD A B).length ∧ Turned A B j now ∧ Rd rtEn 4 wr v now ∧ Below w3.heap.size w3 wr
theorem hop4 {w w' : World} {b o j : Nat} {r : Rt} (lb : b < w.heap.size) (sa : ∀ i u, (rtEn r)[i]? = some u → w.cell? ⟨b, o + j * 4 + i, none⟩ = some u) (h : Below w.heap.size w w') :
    w'.cell? ⟨b, o + j * 4 + 3, none⟩ = some (.int .i64 r.2) := (h.cell (p := ⟨b, o + j * 4 + 3, none⟩) lb).trans (sa 3 _ rfl)
set_option maxHeartbeats 8000000 in
theorem deltaTurns_in (W : World) (v1 : Value) (l1 : List Rt) (R1 : Rd rtEn 4 W v1 l1) (v2 : Value) (l2 : List Rt) (R2 : Rd rtEn 4 W v2 l2) (h1 : l1.length ≤ 40) (h2 : l2.length ≤ 40) :
    Calls Try.prog 4 #[v1, v2] W fun e W' => e = .returned (.bool true) ∧ Below W.heap.size W W' := by
  have cA := hid (delta_alive W)
  have HR1 := hid R1
  have HR2 := hid R2
  have cX := hid (fun (w' : World) (h : Below W.heap.size W w') => delta_of w' v1 v2 l1 l2 (R1.below rtEn_length h) (R2.below rtEn_length h) (by omega) (by omega))
  have cS := hid (fun (w' : World) (h : Below W.heap.size W w') => ref_sorted w' v1 l1 (R1.below rtEn_length h) (by omega))
  have cT := hid (fun (w' : World) (h : Below W.heap.size W w') => ref_sorted w' v2 l2 (R2.below rtEn_length h) (by omega))
  obtain ⟨A, cap, rfl, n1, m1⟩ := R1.form
  obtain ⟨B, cap2, rfl, n2, m2⟩ := R2.form
  unfold maxLen at m1 m2
  clear R1 R2
  obtain ⟨n, hn⟩ : ∃ n, l1.length = n := ⟨_, rfl⟩
  obtain ⟨m, hm⟩ : ∃ m, l2.length = m := ⟨_, rfl⟩
  have c1 : ¬ (n : Int) > 40 := by omega
  have c2 : ¬ (m : Int) > 40 := by omega
  have HN := hid hn
  have HM := hid hm
  rw [hn] at HR1 cX cS n1 h1 ⊢
  rw [hm] at HR2 cX cT n2 h2 ⊢
  clear hn hm
  have hg := guard_pf
  go_enter Try.func4, Try.ntmps4
  go_wp2_with fail
  refine cA.out.mono ?_
  rintro _ w1 ⟨rfl, hb1⟩
  have HB1 := hid hb1
  clear hb1 cA
  go_wp2_with fail
  go_loopw [6] (fun i wr => DtRel1 l1 l2 w1 i wr) (fun i _ => 41 - (intOf i).toNat)
  case atStart => exact ⟨0, rfl, by omega, fun k r hk => by omega, fun k r hk => by omega, rfl⟩
  case round =>
    obtain ⟨j, rfl, hj, hN1, hN2, rfl⟩ := hrel
    have HN1 := hid hN1
    have HN2 := hid hN2
    clear hN1 hN2
    have hj0 : (0 : Int) ≤ (j : Int) := by omega
    have hw : IntKind.i64.wrap ((j : Int) + 1) = (j : Int) + 1 := by rw [IntKind.wrap_i64]; omega
    by_cases ha : j < n
    · obtain ⟨x, hx⟩ : ∃ x, l1[j]? = some x := ⟨_, List.getElem?_eq_getElem (by rw [HN.out]; exact ha)⟩
      obtain ⟨bx, ox, qx, hvx, _, _, lx, sx⟩ := HR1.out.get rtEn_length (by decide) hx
      have yx := hop4 lx sx HB1.out
      injection hvx with a1 a2 a3
      subst a1 a3
      clear a2
      have j1 : (j : Int) < (n : Int) := by omega
      clear sx lx
      by_cases hneg : x.2 < 0
      · clear hx
        generalize x.2 = h at *
        go_wp2_with fail
        go_ret
        exact ⟨rfl, HB1.out⟩
      · have HX := hid (HN1.out.succ hx (by omega))
        have d1 : decide (x.2 < 0) = false := decide_eq_false hneg
        clear hx
        generalize x.2 = h at *
        by_cases hbm : j < m
        · obtain ⟨y, hy⟩ : ∃ y, l2[j]? = some y := ⟨_, List.getElem?_eq_getElem (by rw [HM.out]; exact hbm)⟩
          obtain ⟨bz, oz, qz, hvz, _, _, lz, sz⟩ := HR2.out.get rtEn_length (by decide) hy
          have yz := hop4 lz sz HB1.out
          injection hvz with b1 b2 b3
          subst b1 b3
          clear b2
          have k1 : (j : Int) < (m : Int) := by omega
          clear sz lz
          by_cases hneg2 : y.2 < 0
          · clear hy
            generalize y.2 = h' at *
            go_wp2_with fail
            go_ret
            exact ⟨rfl, HB1.out⟩
          · have HY := hid (HN2.out.succ hy (by omega))
            have d2 : decide (y.2 < 0) = false := decide_eq_false hneg2
            have HJ := hid ha
            clear hy
            generalize y.2 = h' at *
            go_wp2_with fail
            go_roundw
            case rel => exact ⟨j + 1, by go_num, by have := HJ.out; omega, HX.out, HY.out, rfl⟩
            case measure => have := HJ.out; simp [intOf]; omega
        · have k1 : ¬ (j : Int) < (m : Int) := by omega
          have HY := hid (HN2.out.past (by rw [HM.out]; omega) (j + 1))
          have HJ := hid ha
          go_wp2_with fail
          go_roundw
          case rel => exact ⟨j + 1, by go_num, by have := HJ.out; omega, HX.out, HY.out, rfl⟩
          case measure => have := HJ.out; simp [intOf]; omega
    · have j1 : ¬ (j : Int) < (n : Int) := by omega
      by_cases hbm : j < m
      · obtain ⟨y, hy⟩ : ∃ y, l2[j]? = some y := ⟨_, List.getElem?_eq_getElem (by rw [HM.out]; exact hbm)⟩
        obtain ⟨bz, oz, qz, hvz, _, _, lz, sz⟩ := HR2.out.get rtEn_length (by decide) hy
        have yz := hop4 lz sz HB1.out
        injection hvz with b1 b2 b3
        subst b1 b3
        clear b2
        have k1 : (j : Int) < (m : Int) := by omega
        clear sz lz
        by_cases hneg2 : y.2 < 0
        · clear hy
          generalize y.2 = h' at *
          go_wp2_with fail
          go_ret
          exact ⟨rfl, HB1.out⟩
        · have HY := hid (HN2.out.succ hy (by omega))
          have HX := hid (HN1.out.past (by rw [HN.out]; omega) (j + 1))
          have d2 : decide (y.2 < 0) = false := decide_eq_false hneg2
          have HJ := hid hbm
          clear hy
          generalize y.2 = h' at *
          go_wp2_with fail
          go_roundw
          case rel => exact ⟨j + 1, by go_num, by have := HJ.out; omega, HX.out, HY.out, rfl⟩
          case measure => have := HJ.out; simp [intOf]; omega
      · have k1 : ¬ (j : Int) < (m : Int) := by omega
        have NA := hid (show NN (sortedL l1) from fun r hr => (HN1.out.all (by rw [HN.out]; omega)) r (sorted_mem hr))
        have NB := hid (show NN (sortedL l2) from fun r hr => (HN2.out.all (by rw [HM.out]; omega)) r (sorted_mem hr))
        have SA := hid (show SL (sortedL l1) from sorted_ord l1)
        have SB := hid (show SL (sortedL l2) from sorted_ord l2)
        have HLA := hid (show (sortedL l1).length ≤ 40 from by have := sorted_le l1; have := HN.out; omega)
        have HLN := hid (show (mergeD (sortedL l1) (sortedL l2)).length ≤ 80 from by have := mergeD_len _ (sortedL l1) (sortedL l2) (Nat.le_refl _); have := sorted_le l1; have := sorted_le l2; have := HN.out; have := HM.out; omega)
        generalize sortedL l1 = SAl at cX cS NA SA HLA HLN
        generalize sortedL l2 = SBl at cX cT NB SB HLN
        clear HN1 HN2
        go_wp2_with fail
        refine (cX.out _ HB1.out).mono ?_
        rintro _ w2 ⟨vx, rfl, hOx, hb2⟩
        have HB2 := hid (held_next HB1.out hb2)
        have HX2 := hid (Rd.of_owns (l := mergeD SAl SBl) hOx chgEn_len)
        clear hb2 hOx cX
        obtain ⟨Ax, cx, rfl, x1, x2⟩ := HX2.out.form
        unfold maxLen at x2
        obtain ⟨N, hNN⟩ : ∃ N, (mergeD SAl SBl).length = N := ⟨_, rfl⟩
        have hn80 := HLN.out
        rw [hNN] at HX2 x1 hn80 ⊢
        have HNN := hid hNN
        clear hNN HLN
        go_wp2_with fail
        refine (cS.out _ HB2.out).mono ?_
        rintro _ w3 ⟨vn, rfl, hOn, hb3⟩
        have HB3 := hid (held_next HB2.out hb3)
        have HX := hid (HX2.out.below chgEn_len hb3)
        have HRn := hid (show Rd rtEn 4 w3 vn SAl from hOn.rd)
        clear hb3 hOn cS HX2 HB2
        go_wp2_with fail
        go_loopw [8, 9] (fun v i wr => DtRel2 w3 SAl SBl v i wr) (fun _ i _ => N - (intOf i).toNat)
        case atStart => exact ⟨0, SAl, rfl, Nat.zero_le _, Turned.start SA.out, HRn.out, Below.refl _ _⟩
        case round =>
          obtain ⟨j, now, rfl, hj, hT, hR, hB⟩ := hrel
          clear HRn
          have HB := hid hB
          have HT := hid hT
          have HRW := hid hR
          have hlen := hT.l
          obtain ⟨An, cn, rfl, q1, q2⟩ := hR.form
          unfold maxLen at q2
          obtain ⟨L, hL⟩ : ∃ L, now.length = L := ⟨_, rfl⟩
          rw [hL] at HRW q1 hlen hR ⊢
          have HLL := hid hL
          rw [HNN.out] at hj
          have hL200 : L ≤ 200 := by have := HLA.out; omega
          clear hT hB hL hlen
          by_cases hjn : j < N
          · obtain ⟨c, hc⟩ : ∃ c, (mergeD SAl SBl)[j]? = some c := ⟨_, List.getElem?_eq_getElem (by rw [HNN.out]; exact hjn)⟩
            obtain ⟨bx, ox, qx, hvx, _, _, lx, sx⟩ := HX.out.get chgEn_len (by decide) hc
            injection hvx with a1 a2 a3
            subst a1 a3
            clear a2
            have HCX := hid (fun (w' : World) (h : Below w3.heap.size w3 w') => cell5 lx sx h)
            obtain ⟨hold, hne, hnx⟩ := HT.out.at SA.out SB.out NA.out NB.out hc
            have cF := hid (ref_find wr _ now hR c.1)
            have cI := hid (fun (w' : World) (h : Below wr.heap.size wr w') => ref_into w' _ now (HRW.out.below rtEn_length h) (by rw [HLL.out]; omega) (c.1, c.2.2))
            have cW := hid (fun (w' : World) (h : Below wr.heap.size wr w') => ref_without w' _ now (HRW.out.below rtEn_length h) (by rw [HLL.out]; omega) c.1)
            have HNX := hid hnx
            have j0 : (0 : Int) ≤ (j : Int) := by omega
            have j1 : (j : Int) < (N : Int) := by omega
            have hwj : IntKind.i64.wrap ((j : Int) + 1) = (j : Int) + 1 := by rw [IntKind.wrap_i64]; omega
            have HJ := hid hjn
            have HOLD := hid hold
            have HNE := hid hne
            obtain ⟨y0, y1, y2, y3, y4⟩ := HCX.out _ HB.out
            clear sx lx hc hR hjn hold hne hnx
            obtain ⟨⟨⟨k1, k2⟩, k3⟩, o, m'⟩ := c
            simp only at y0 y1 y2 y3 y4 cF cI cW HOLD HNE
            go_wp2_with fail
            refine cF.out.mono ?_
            rintro _ w5 ⟨rfl, hb5⟩
            have HB5 := hid (held_next HB.out hb5)
            have HRW5 := hid (HRW.out.below rtEn_length hb5)
            have HBb5 := hid hb5
            clear hb5 cF y0 y1 y2 y3 y4
            have e2 : (o == m') = false := by rw [beq_eq_false_iff_ne]; exact HNE.out
            have e3 : ¬ o = m' := HNE.out
            have e4 : decide (o = m') = false := decide_eq_false e3
            rcases HOLD.out with ⟨hneg, hf⟩ | ⟨hpos, kf, hf, hg2⟩
            · rw [hf]
              have o1 : decide (0 ≤ o) = false := decide_eq_false (by omega)
              have o2 : ¬ 0 ≤ o := by omega
              clear hf hneg
              go_wp2_with fail
              have hS : (w5.drew.cell? ⟨bx, ox + j * 5, none⟩ = some (.int .u64 (k1 : Int)) ∧ w5.drew.cell? ⟨bx, ox + j * 5 + 1, none⟩ = some (.int .u64 (k2 : Int)) ∧ w5.drew.cell? ⟨bx, ox + j * 5 + 2, none⟩ = some (.int .i64 k3) ∧ w5.drew.cell? ⟨bx, ox + j * 5 + 3, none⟩ = some (.int .i64 o) ∧ w5.drew.cell? ⟨bx, ox + j * 5 + 4, none⟩ = some (.int .i64 m')) := HCX.out _ HB5.out.drew
              refine wp_region_ord (fun w' => (w'.cell? ⟨bx, ox + j * 5, none⟩ = some (.int .u64 (k1 : Int)) ∧ w'.cell? ⟨bx, ox + j * 5 + 1, none⟩ = some (.int .u64 (k2 : Int)) ∧ w'.cell? ⟨bx, ox + j * 5 + 2, none⟩ = some (.int .i64 k3) ∧ w'.cell? ⟨bx, ox + j * 5 + 3, none⟩ = some (.int .i64 o) ∧ w'.cell? ⟨bx, ox + j * 5 + 4, none⟩ = some (.int .i64 m'))) (by kernel_rfl) hS ?_
              refine ord_still 0 rfl (v := ?_) (by kernel_rfl) (fun _ _ _ h => h) rfl (fun W hW => ?_) hS ?_
              rotate_left
              · try dsimp only at hW
                go_simp
                try with_reducible rfl
              simp only [Act.put, List.setIfInBounds_toArray, List.set_cons_zero, List.set_cons_succ]
              refine ord_still 1 rfl (v := ?_) (by kernel_rfl) (fun _ _ _ h => h) rfl (fun W hW => ?_) hS ?_
              rotate_left
              · try dsimp only at hW
                go_simp
                try with_reducible rfl
              simp only [Act.put, List.setIfInBounds_toArray, List.set_cons_zero, List.set_cons_succ]
              refine ord_still 2 rfl (v := ?_) (by kernel_rfl) (fun _ _ _ h => h) rfl (fun W hW => ?_) hS ?_
              rotate_left
              · try dsimp only at hW
                go_simp
                try with_reducible rfl
              simp only [Act.put, List.setIfInBounds_toArray, List.set_cons_zero, List.set_cons_succ]
              refine ord_still 3 rfl (v := ?_) (by kernel_rfl) (fun _ _ _ h => h) rfl (fun W hW => ?_) hS ?_
              rotate_left
              · try dsimp only at hW
                go_simp
                try with_reducible rfl
              simp only [Act.put, List.setIfInBounds_toArray, List.set_cons_zero, List.set_cons_succ]
              refine ord_still 4 rfl (v := ?_) (by kernel_rfl) (fun _ _ _ h => h) rfl (fun W hW => ?_) hS ?_
              rotate_left
              · try dsimp only at hW
                go_simp
                try with_reducible rfl
              simp only [Act.put, List.setIfInBounds_toArray, List.set_cons_zero, List.set_cons_succ]
              refine ord_still 5 rfl (v := ?_) (by kernel_rfl) (fun _ _ _ h => h) rfl (fun W hW => ?_) hS ?_
              rotate_left
              · try dsimp only at hW
                go_simp
                try with_reducible rfl
              simp only [Act.put, List.setIfInBounds_toArray, List.set_cons_zero, List.set_cons_succ]
              refine ord_still 6 rfl (v := ?_) (by kernel_rfl) (fun _ _ _ h => h) rfl (fun W hW => ?_) hS ?_
              rotate_left
              · try dsimp only at hW
                go_simp
                try with_reducible rfl
              simp only [Act.put, List.setIfInBounds_toArray, List.set_cons_zero, List.set_cons_succ]
              refine ord_still 7 rfl (v := ?_) (by kernel_rfl) (fun _ _ _ h => h) rfl (fun W hW => ?_) hS ?_
              rotate_left
              · try dsimp only at hW
                go_simp
                try with_reducible rfl
              simp only [Act.put, List.setIfInBounds_toArray, List.set_cons_zero, List.set_cons_succ]
              refine ord_still 8 rfl (v := ?_) (by kernel_rfl) (fun _ _ _ h => h) rfl (fun W hW => ?_) hS ?_
              rotate_left
              · try dsimp only at hW
                go_simp
                try with_reducible rfl
              simp only [Act.put, List.setIfInBounds_toArray, List.set_cons_zero, List.set_cons_succ]
              refine ord_still 9 rfl (v := ?_) (by kernel_rfl) (fun _ _ _ h => h) rfl (fun W hW => ?_) hS ?_
              rotate_left
              · try dsimp only at hW
                go_simp
                try with_reducible rfl
              simp only [Act.put, List.setIfInBounds_toArray, List.set_cons_zero, List.set_cons_succ]
              refine ord_still 10 rfl (v := ?_) (by kernel_rfl) (fun _ _ _ h => h) rfl (fun W hW => ?_) hS ?_
              rotate_left
              · try dsimp only at hW
                go_simp
                try with_reducible rfl
              simp only [Act.put, List.setIfInBounds_toArray, List.set_cons_zero, List.set_cons_succ]
              refine ord_still 11 rfl (v := ?_) (by kernel_rfl) (fun _ _ _ h => h) rfl (fun W hW => ?_) hS ?_
              rotate_left
              · try dsimp only at hW
                go_simp
                try with_reducible rfl
              simp only [Act.put, List.setIfInBounds_toArray, List.set_cons_zero, List.set_cons_succ]
              refine ord_still 12 rfl (v := ?_) (by kernel_rfl) (fun _ _ _ h => h) rfl (fun W hW => ?_) hS ?_
              rotate_left
              · try dsimp only at hW
                go_simp
                try with_reducible rfl
              simp only [Act.put, List.setIfInBounds_toArray, List.set_cons_zero, List.set_cons_succ]
              refine ord_skip 13 rfl (by kernel_rfl) (fun _ _ _ h => h) rfl hS ?_
              simp only [Act.put, List.setIfInBounds_toArray, List.set_cons_zero, List.set_cons_succ]
              refine ord_skip 14 rfl (by kernel_rfl) (fun _ _ _ h => h) rfl hS ?_
              simp only [Act.put, List.setIfInBounds_toArray, List.set_cons_zero, List.set_cons_succ]
              refine ord_skip 15 rfl (by kernel_rfl) (fun _ _ _ h => h) rfl hS ?_
              simp only [Act.put, List.setIfInBounds_toArray, List.set_cons_zero, List.set_cons_succ]
              refine ord_skip 16 rfl (by kernel_rfl) (fun _ _ _ h => h) rfl hS ?_
              simp only [Act.put, List.setIfInBounds_toArray, List.set_cons_zero, List.set_cons_succ]
              refine ord_skip 17 rfl (by kernel_rfl) (fun _ _ _ h => h) rfl hS ?_
              simp only [Act.put, List.setIfInBounds_toArray, List.set_cons_zero, List.set_cons_succ]
              refine ord_skip 18 rfl (by kernel_rfl) (fun _ _ _ h => h) rfl hS ?_
              simp only [Act.put, List.setIfInBounds_toArray, List.set_cons_zero, List.set_cons_succ]
              refine ord_skip 19 rfl (by kernel_rfl) (fun _ _ _ h => h) rfl hS ?_
              simp only [Act.put, List.setIfInBounds_toArray, List.set_cons_zero, List.set_cons_succ]
              refine ord_skip 20 rfl (by kernel_rfl) (fun _ _ _ h => h) rfl hS ?_
              simp only [Act.put, List.setIfInBounds_toArray, List.set_cons_zero, List.set_cons_succ]
              refine ord_skip 21 rfl (by kernel_rfl) (fun _ _ _ h => h) rfl hS ?_
              simp only [Act.put, List.setIfInBounds_toArray, List.set_cons_zero, List.set_cons_succ]
              refine ord_skip 22 rfl (by kernel_rfl) (fun _ _ _ h => h) rfl hS ?_
              simp only [Act.put, List.setIfInBounds_toArray, List.set_cons_zero, List.set_cons_succ]
              refine ord_skip 23 rfl (by kernel_rfl) (fun _ _ _ h => h) rfl hS ?_
              simp only [Act.put, List.setIfInBounds_toArray, List.set_cons_zero, List.set_cons_succ]
              refine ord_still 24 rfl (v := ?_) (by kernel_rfl) (fun _ _ _ h => h) rfl (fun W hW => ?_) hS ?_
              rotate_left
              · try dsimp only at hW
                go_simp
                try with_reducible rfl
              simp only [Act.put, List.setIfInBounds_toArray, List.set_cons_zero, List.set_cons_succ]
              refine ord_still 25 rfl (v := ?_) (by kernel_rfl) (fun _ _ _ h => h) rfl (fun W hW => ?_) hS ?_
              rotate_left
              · try dsimp only at hW
                go_simp
                try with_reducible rfl
              simp only [Act.put, List.setIfInBounds_toArray, List.set_cons_zero, List.set_cons_succ]
              refine ord_still 26 rfl (v := ?_) (by kernel_rfl) (fun _ _ _ h => h) rfl (fun W hW => ?_) hS ?_
              rotate_left
              · try dsimp only at hW
                go_simp
                try with_reducible rfl
              simp only [Act.put, List.setIfInBounds_toArray, List.set_cons_zero, List.set_cons_succ]
              refine ord_still 27 rfl (v := ?_) (by kernel_rfl) (fun _ _ _ h => h) rfl (fun W hW => ?_) hS ?_
              rotate_left
              · try dsimp only at hW
                go_simp
                try with_reducible rfl
              simp only [Act.put, List.setIfInBounds_toArray, List.set_cons_zero, List.set_cons_succ]
              refine ord_still 28 rfl (v := ?_) (by kernel_rfl) (fun _ _ _ h => h) rfl (fun W hW => ?_) hS ?_
              rotate_left
              · try dsimp only at hW
                go_simp
                try with_reducible rfl
              simp only [Act.put, List.setIfInBounds_toArray, List.set_cons_zero, List.set_cons_succ]
              refine ord_still 29 rfl (v := ?_) (by kernel_rfl) (fun _ _ _ h => h) rfl (fun W hW => ?_) hS ?_
              rotate_left
              · try dsimp only at hW
                go_simp
                try with_reducible rfl
              simp only [Act.put, List.setIfInBounds_toArray, List.set_cons_zero, List.set_cons_succ]
              refine ord_still 30 rfl (v := ?_) (by kernel_rfl) (fun _ _ _ h => h) rfl (fun W hW => ?_) hS ?_
              rotate_left
              · try dsimp only at hW
                go_simp
                try with_reducible rfl
              simp only [Act.put, List.setIfInBounds_toArray, List.set_cons_zero, List.set_cons_succ]
              refine ord_still 31 rfl (v := ?_) (by kernel_rfl) (fun _ _ _ h => h) rfl (fun W hW => ?_) hS ?_
              rotate_left
              · try dsimp only at hW
                go_simp
                try with_reducible rfl
              simp only [Act.put, List.setIfInBounds_toArray, List.set_cons_zero, List.set_cons_succ]
              refine ord_still 32 rfl (v := ?_) (by kernel_rfl) (fun _ _ _ h => h) rfl (fun W hW => ?_) hS ?_
              rotate_left
              · try dsimp only at hW
                go_simp
                try with_reducible rfl
              simp only [Act.put, List.setIfInBounds_toArray, List.set_cons_zero, List.set_cons_succ]
              refine ord_still 33 rfl (v := ?_) (by kernel_rfl) (fun _ _ _ h => h) rfl (fun W hW => ?_) hS ?_
              rotate_left
              · try dsimp only at hW
                go_simp
                try with_reducible rfl
              simp only [Act.put, List.setIfInBounds_toArray, List.set_cons_zero, List.set_cons_succ]
              refine ord_still 34 rfl (v := ?_) (by kernel_rfl) (fun _ _ _ h => h) rfl (fun W hW => ?_) hS ?_
              rotate_left
              · try dsimp only at hW
                go_simp
                try with_reducible rfl
              simp only [Act.put, List.setIfInBounds_toArray, List.set_cons_zero, List.set_cons_succ]
              refine ord_still 35 rfl (v := ?_) (by kernel_rfl) (fun _ _ _ h => h) rfl (fun W hW => ?_) hS ?_
              rotate_left
              · try dsimp only at hW
                go_simp
                try with_reducible rfl
              simp only [Act.put, List.setIfInBounds_toArray, List.set_cons_zero, List.set_cons_succ]
              refine ord_still 36 rfl (v := ?_) (by kernel_rfl) (fun _ _ _ h => h) rfl (fun W hW => ?_) hS ?_
              rotate_left
              · try dsimp only at hW
                go_simp
                try with_reducible rfl
              simp only [Act.put, List.setIfInBounds_toArray, List.set_cons_zero, List.set_cons_succ]
              refine ord_still 37 rfl (v := ?_) (by kernel_rfl) (fun _ _ _ h => h) rfl (fun W hW => ?_) hS ?_
              rotate_left
              · try dsimp only at hW
                go_simp
                try with_reducible rfl
              simp only [Act.put, List.setIfInBounds_toArray, List.set_cons_zero, List.set_cons_succ]
              refine ord_still 38 rfl (v := ?_) (by kernel_rfl) (fun _ _ _ h => h) rfl (fun W hW => ?_) hS ?_
              rotate_left
              · try dsimp only at hW
                go_simp
                try with_reducible rfl
              simp only [Act.put, List.setIfInBounds_toArray, List.set_cons_zero, List.set_cons_succ]
              refine ord_done (by kernel_rfl) ?_
              clear hS
              by_cases hnew : 0 ≤ m'
              · have u1 : decide (0 ≤ m') = true := decide_eq_true hnew
                have HDO := hid (show Turned SAl SBl (j + 1) (intoL now (((k1, k2), k3), m')) from by have h := HNX.out; unfold doC at h; rw [if_pos hnew] at h; exact h)
                obtain ⟨y0, y1, y2, y3, y4⟩ := HCX.out _ HB5.out
                go_wp2_with fail
                have hS : (w5.drew.drew.cell? ⟨bx, ox + j * 5, none⟩ = some (.int .u64 (k1 : Int)) ∧ w5.drew.drew.cell? ⟨bx, ox + j * 5 + 1, none⟩ = some (.int .u64 (k2 : Int)) ∧ w5.drew.drew.cell? ⟨bx, ox + j * 5 + 2, none⟩ = some (.int .i64 k3) ∧ w5.drew.drew.cell? ⟨bx, ox + j * 5 + 3, none⟩ = some (.int .i64 o) ∧ w5.drew.drew.cell? ⟨bx, ox + j * 5 + 4, none⟩ = some (.int .i64 m')) := HCX.out _ HB5.out.drew.drew
                refine wp_region_ord (fun w' => (w'.cell? ⟨bx, ox + j * 5, none⟩ = some (.int .u64 (k1 : Int)) ∧ w'.cell? ⟨bx, ox + j * 5 + 1, none⟩ = some (.int .u64 (k2 : Int)) ∧ w'.cell? ⟨bx, ox + j * 5 + 2, none⟩ = some (.int .i64 k3) ∧ w'.cell? ⟨bx, ox + j * 5 + 3, none⟩ = some (.int .i64 o) ∧ w'.cell? ⟨bx, ox + j * 5 + 4, none⟩ = some (.int .i64 m'))) (by kernel_rfl) hS ?_
                refine ord_still 0 rfl (v := ?_) (by kernel_rfl) (fun _ _ _ h => h) rfl (fun W hW => ?_) hS ?_
                rotate_left
                · try dsimp only at hW
                  go_simp
                  try with_reducible rfl
                simp only [Act.put, List.setIfInBounds_toArray, List.set_cons_zero, List.set_cons_succ]
                refine ord_still 1 rfl (v := ?_) (by kernel_rfl) (fun _ _ _ h => h) rfl (fun W hW => ?_) hS ?_
                rotate_left
                · try dsimp only at hW
                  go_simp
                  try with_reducible rfl
                simp only [Act.put, List.setIfInBounds_toArray, List.set_cons_zero, List.set_cons_succ]
                refine ord_still 2 rfl (v := ?_) (by kernel_rfl) (fun _ _ _ h => h) rfl (fun W hW => ?_) hS ?_
                rotate_left
                · try dsimp only at hW
                  go_simp
                  try with_reducible rfl
                simp only [Act.put, List.setIfInBounds_toArray, List.set_cons_zero, List.set_cons_succ]
                refine ord_still 3 rfl (v := ?_) (by kernel_rfl) (fun _ _ _ h => h) rfl (fun W hW => ?_) hS ?_
                rotate_left
                · try dsimp only at hW
                  go_simp
                  try with_reducible rfl
                simp only [Act.put, List.setIfInBounds_toArray, List.set_cons_zero, List.set_cons_succ]
                refine ord_still 4 rfl (v := ?_) (by kernel_rfl) (fun _ _ _ h => h) rfl (fun W hW => ?_) hS ?_
                rotate_left
                · try dsimp only at hW
                  go_simp
                  try with_reducible rfl
                simp only [Act.put, List.setIfInBounds_toArray, List.set_cons_zero, List.set_cons_succ]
                refine ord_still 5 rfl (v := ?_) (by kernel_rfl) (fun _ _ _ h => h) rfl (fun W hW => ?_) hS ?_
                rotate_left
                · try dsimp only at hW
                  go_simp
                  try with_reducible rfl
                simp only [Act.put, List.setIfInBounds_toArray, List.set_cons_zero, List.set_cons_succ]
                refine ord_still 6 rfl (v := ?_) (by kernel_rfl) (fun _ _ _ h => h) rfl (fun W hW => ?_) hS ?_
                rotate_left
                · try dsimp only at hW
                  go_simp
                  try with_reducible rfl
                simp only [Act.put, List.setIfInBounds_toArray, List.set_cons_zero, List.set_cons_succ]
                refine ord_still 7 rfl (v := ?_) (by kernel_rfl) (fun _ _ _ h => h) rfl (fun W hW => ?_) hS ?_
                rotate_left
                · try dsimp only at hW
                  go_simp
                  try with_reducible rfl
                simp only [Act.put, List.setIfInBounds_toArray, List.set_cons_zero, List.set_cons_succ]
                refine ord_still 8 rfl (v := ?_) (by kernel_rfl) (fun _ _ _ h => h) rfl (fun W hW => ?_) hS ?_
                rotate_left
                · try dsimp only at hW
                  go_simp
                  try with_reducible rfl
                simp only [Act.put, List.setIfInBounds_toArray, List.set_cons_zero, List.set_cons_succ]
                refine ord_still 9 rfl (v := ?_) (by kernel_rfl) (fun _ _ _ h => h) rfl (fun W hW => ?_) hS ?_
                rotate_left
                · try dsimp only at hW
                  go_simp
                  try with_reducible rfl
                simp only [Act.put, List.setIfInBounds_toArray, List.set_cons_zero, List.set_cons_succ]
                refine ord_still 10 rfl (v := ?_) (by kernel_rfl) (fun _ _ _ h => h) rfl (fun W hW => ?_) hS ?_
                rotate_left
                · try dsimp only at hW
                  go_simp
                  try with_reducible rfl
                simp only [Act.put, List.setIfInBounds_toArray, List.set_cons_zero, List.set_cons_succ]
                refine ord_still 11 rfl (v := ?_) (by kernel_rfl) (fun _ _ _ h => h) rfl (fun W hW => ?_) hS ?_
                rotate_left
                · try dsimp only at hW
                  go_simp
                  try with_reducible rfl
                simp only [Act.put, List.setIfInBounds_toArray, List.set_cons_zero, List.set_cons_succ]
                refine ord_alone 12 rfl (by kernel_rfl) rfl (fun K hK => ?_)
                go_simp
                refine (cI.out _ (HBb5.out.drew.drew)).mono ?_
                rintro _ w6 ⟨v6, rfl, hO6, hb6⟩
                have HB6 := hid (held_next HB5.out.drew.drew hb6)
                have HR6 := hid hO6.rd
                clear hO6 hb6 y0 y1 y2 y3 y4
                clear hS
                have hS : (w6.cell? ⟨bx, ox + j * 5, none⟩ = some (.int .u64 (k1 : Int)) ∧ w6.cell? ⟨bx, ox + j * 5 + 1, none⟩ = some (.int .u64 (k2 : Int)) ∧ w6.cell? ⟨bx, ox + j * 5 + 2, none⟩ = some (.int .i64 k3) ∧ w6.cell? ⟨bx, ox + j * 5 + 3, none⟩ = some (.int .i64 o) ∧ w6.cell? ⟨bx, ox + j * 5 + 4, none⟩ = some (.int .i64 m')) := HCX.out _ HB6.out
                refine hK.out _ _ hS ?_
                clear hK
                refine ord_still 13 rfl (v := ?_) (by kernel_rfl) (fun _ _ _ h => h) rfl (fun W hW => ?_) hS ?_
                rotate_left
                · try dsimp only at hW
                  go_simp
                  try with_reducible rfl
                simp only [Act.put, List.setIfInBounds_toArray, List.set_cons_zero, List.set_cons_succ]
                refine ord_done (by kernel_rfl) ?_
                clear hS
                go_wp2_with fail
                go_roundw
                case rel => exact ⟨j + 1, _, by go_num, by rw [HNN.out]; have := HJ.out; omega, HDO.out, HR6.out, HB6.out⟩
                case measure => have := HJ.out; simp [intOf]; omega
              · have u1 : decide (0 ≤ m') = false := decide_eq_false hnew
                have HDO := hid (show Turned SAl SBl (j + 1) (withoutL now ((k1, k2), k3)) from by have h := HNX.out; unfold doC at h; rw [if_neg hnew] at h; exact h)
                obtain ⟨y0, y1, y2, y3, y4⟩ := HCX.out _ HB5.out
                go_wp2_with fail
                refine (cW.out _ HBb5.out.drew).mono ?_
                rintro _ w6 ⟨v6, rfl, hO6, hb6⟩
                have HB6 := hid (held_next HB5.out.drew hb6)
                have HR6 := hid hO6.rd
                clear hO6 hb6 y0 y1 y2 y3 y4
                go_wp2_with fail
                go_roundw
                case rel => exact ⟨j + 1, _, by go_num, by rw [HNN.out]; have := HJ.out; omega, HDO.out, HR6.out, HB6.out⟩
                case measure => have := HJ.out; simp [intOf]; omega
            · rw [hf]
              have o1 : decide (0 ≤ o) = true := decide_eq_true hpos
              obtain ⟨bn, on, qn, hvn, _, _, ln, sn⟩ := HRW5.out.get rtEn_length (by decide) hg2
              injection hvn with d1 d2 d3
              subst d1 d3
              have HCN := hid (fun (w' : World) (h : Below w5.heap.size w5 w') => hop4 ln sn h)
              have kl : kf < L := by have := (List.getElem?_eq_some_iff.1 hg2).1; have := HLL.out; omega
              have f0 : (0 : Int) ≤ (kf : Int) := by omega
              have f1 : (kf : Int) < (L : Int) := by omega
              clear hf sn ln hg2 d2
              go_wp2_with fail
              have hS : (w5.drew.cell? ⟨bx, ox + j * 5, none⟩ = some (.int .u64 (k1 : Int)) ∧ w5.drew.cell? ⟨bx, ox + j * 5 + 1, none⟩ = some (.int .u64 (k2 : Int)) ∧ w5.drew.cell? ⟨bx, ox + j * 5 + 2, none⟩ = some (.int .i64 k3) ∧ w5.drew.cell? ⟨bx, ox + j * 5 + 3, none⟩ = some (.int .i64 o) ∧ w5.drew.cell? ⟨bx, ox + j * 5 + 4, none⟩ = some (.int .i64 m')) ∧ (w5.drew.cell? ⟨bn, on + kf * 4 + 3, none⟩ = some (.int .i64 o)) := ⟨HCX.out _ HB5.out.drew, HCN.out _ ((Below.refl _ _).drew)⟩
              refine wp_region_ord (fun w' => (w'.cell? ⟨bx, ox + j * 5, none⟩ = some (.int .u64 (k1 : Int)) ∧ w'.cell? ⟨bx, ox + j * 5 + 1, none⟩ = some (.int .u64 (k2 : Int)) ∧ w'.cell? ⟨bx, ox + j * 5 + 2, none⟩ = some (.int .i64 k3) ∧ w'.cell? ⟨bx, ox + j * 5 + 3, none⟩ = some (.int .i64 o) ∧ w'.cell? ⟨bx, ox + j * 5 + 4, none⟩ = some (.int .i64 m')) ∧ (w'.cell? ⟨bn, on + kf * 4 + 3, none⟩ = some (.int .i64 o))) (by kernel_rfl) hS ?_
              refine ord_still 0 rfl (v := ?_) (by kernel_rfl) (fun _ _ _ h => h) rfl (fun W hW => ?_) hS ?_
              rotate_left
              · try dsimp only at hW
                go_simp
                try with_reducible rfl
              simp only [Act.put, List.setIfInBounds_toArray, List.set_cons_zero, List.set_cons_succ]
              refine ord_still 1 rfl (v := ?_) (by kernel_rfl) (fun _ _ _ h => h) rfl (fun W hW => ?_) hS ?_
              rotate_left
              · try dsimp only at hW
                go_simp
                try with_reducible rfl
              simp only [Act.put, List.setIfInBounds_toArray, List.set_cons_zero, List.set_cons_succ]
              refine ord_still 2 rfl (v := ?_) (by kernel_rfl) (fun _ _ _ h => h) rfl (fun W hW => ?_) hS ?_
              rotate_left
              · try dsimp only at hW
                go_simp
                try with_reducible rfl
              simp only [Act.put, List.setIfInBounds_toArray, List.set_cons_zero, List.set_cons_succ]
              refine ord_still 3 rfl (v := ?_) (by kernel_rfl) (fun _ _ _ h => h) rfl (fun W hW => ?_) hS ?_
              rotate_left
              · try dsimp only at hW
                go_simp
                try with_reducible rfl
              simp only [Act.put, List.setIfInBounds_toArray, List.set_cons_zero, List.set_cons_succ]
              refine ord_still 4 rfl (v := ?_) (by kernel_rfl) (fun _ _ _ h => h) rfl (fun W hW => ?_) hS ?_
              rotate_left
              · try dsimp only at hW
                go_simp
                try with_reducible rfl
              simp only [Act.put, List.setIfInBounds_toArray, List.set_cons_zero, List.set_cons_succ]
              refine ord_still 5 rfl (v := ?_) (by kernel_rfl) (fun _ _ _ h => h) rfl (fun W hW => ?_) hS ?_
              rotate_left
              · try dsimp only at hW
                go_simp
                try with_reducible rfl
              simp only [Act.put, List.setIfInBounds_toArray, List.set_cons_zero, List.set_cons_succ]
              refine ord_still 6 rfl (v := ?_) (by kernel_rfl) (fun _ _ _ h => h) rfl (fun W hW => ?_) hS ?_
              rotate_left
              · try dsimp only at hW
                go_simp
                try with_reducible rfl
              simp only [Act.put, List.setIfInBounds_toArray, List.set_cons_zero, List.set_cons_succ]
              refine ord_still 7 rfl (v := ?_) (by kernel_rfl) (fun _ _ _ h => h) rfl (fun W hW => ?_) hS ?_
              rotate_left
              · try dsimp only at hW
                go_simp
                try with_reducible rfl
              simp only [Act.put, List.setIfInBounds_toArray, List.set_cons_zero, List.set_cons_succ]
              refine ord_still 8 rfl (v := ?_) (by kernel_rfl) (fun _ _ _ h => h) rfl (fun W hW => ?_) hS ?_
              rotate_left
              · try dsimp only at hW
                go_simp
                try with_reducible rfl
              simp only [Act.put, List.setIfInBounds_toArray, List.set_cons_zero, List.set_cons_succ]
              refine ord_still 9 rfl (v := ?_) (by kernel_rfl) (fun _ _ _ h => h) rfl (fun W hW => ?_) hS ?_
              rotate_left
              · try dsimp only at hW
                go_simp
                try with_reducible rfl
              simp only [Act.put, List.setIfInBounds_toArray, List.set_cons_zero, List.set_cons_succ]
              refine ord_still 10 rfl (v := ?_) (by kernel_rfl) (fun _ _ _ h => h) rfl (fun W hW => ?_) hS ?_
              rotate_left
              · try dsimp only at hW
                go_simp
                try with_reducible rfl
              simp only [Act.put, List.setIfInBounds_toArray, List.set_cons_zero, List.set_cons_succ]
              refine ord_still 11 rfl (v := ?_) (by kernel_rfl) (fun _ _ _ h => h) rfl (fun W hW => ?_) hS ?_
              rotate_left
              · try dsimp only at hW
                go_simp
                try with_reducible rfl
              simp only [Act.put, List.setIfInBounds_toArray, List.set_cons_zero, List.set_cons_succ]
              refine ord_still 12 rfl (v := ?_) (by kernel_rfl) (fun _ _ _ h => h) rfl (fun W hW => ?_) hS ?_
              rotate_left
              · try dsimp only at hW
                go_simp
                try with_reducible rfl
              simp only [Act.put, List.setIfInBounds_toArray, List.set_cons_zero, List.set_cons_succ]
              refine ord_still 13 rfl (v := ?_) (by kernel_rfl) (fun _ _ _ h => h) rfl (fun W hW => ?_) hS ?_
              rotate_left
              · try dsimp only at hW
                go_simp
                try with_reducible rfl
              simp only [Act.put, List.setIfInBounds_toArray, List.set_cons_zero, List.set_cons_succ]
              refine ord_still 14 rfl (v := ?_) (by kernel_rfl) (fun _ _ _ h => h) rfl (fun W hW => ?_) hS ?_
              rotate_left
              · try dsimp only at hW
                go_simp
                try with_reducible rfl
              simp only [Act.put, List.setIfInBounds_toArray, List.set_cons_zero, List.set_cons_succ]
              refine ord_still 15 rfl (v := ?_) (by kernel_rfl) (fun _ _ _ h => h) rfl (fun W hW => ?_) hS ?_
              rotate_left
              · try dsimp only at hW
                go_simp
                try with_reducible rfl
              simp only [Act.put, List.setIfInBounds_toArray, List.set_cons_zero, List.set_cons_succ]
              refine ord_still 16 rfl (v := ?_) (by kernel_rfl) (fun _ _ _ h => h) rfl (fun W hW => ?_) hS ?_
              rotate_left
              · try dsimp only at hW
                go_simp
                try with_reducible rfl
              simp only [Act.put, List.setIfInBounds_toArray, List.set_cons_zero, List.set_cons_succ]
              refine ord_still 17 rfl (v := ?_) (by kernel_rfl) (fun _ _ _ h => h) rfl (fun W hW => ?_) hS ?_
              rotate_left
              · try dsimp only at hW
                go_simp
                try with_reducible rfl
              simp only [Act.put, List.setIfInBounds_toArray, List.set_cons_zero, List.set_cons_succ]
              refine ord_still 18 rfl (v := ?_) (by kernel_rfl) (fun _ _ _ h => h) rfl (fun W hW => ?_) hS ?_
              rotate_left
              · try dsimp only at hW
                go_simp
                try with_reducible rfl
              simp only [Act.put, List.setIfInBounds_toArray, List.set_cons_zero, List.set_cons_succ]
              refine ord_still 19 rfl (v := ?_) (by kernel_rfl) (fun _ _ _ h => h) rfl (fun W hW => ?_) hS ?_
              rotate_left
              · try dsimp only at hW
                go_simp
                try with_reducible rfl
              simp only [Act.put, List.setIfInBounds_toArray, List.set_cons_zero, List.set_cons_succ]
              refine ord_still 20 rfl (v := ?_) (by kernel_rfl) (fun _ _ _ h => h) rfl (fun W hW => ?_) hS ?_
              rotate_left
              · try dsimp only at hW
                go_simp
                try with_reducible rfl
              simp only [Act.put, List.setIfInBounds_toArray, List.set_cons_zero, List.set_cons_succ]
              refine ord_still 21 rfl (v := ?_) (by kernel_rfl) (fun _ _ _ h => h) rfl (fun W hW => ?_) hS ?_
              rotate_left
              · try dsimp only at hW
                go_simp
                try with_reducible rfl
              simp only [Act.put, List.setIfInBounds_toArray, List.set_cons_zero, List.set_cons_succ]
              refine ord_still 22 rfl (v := ?_) (by kernel_rfl) (fun _ _ _ h => h) rfl (fun W hW => ?_) hS ?_
              rotate_left
              · try dsimp only at hW
                go_simp
                try with_reducible rfl
              simp only [Act.put, List.setIfInBounds_toArray, List.set_cons_zero, List.set_cons_succ]
              refine ord_still 23 rfl (v := ?_) (by kernel_rfl) (fun _ _ _ h => h) rfl (fun W hW => ?_) hS ?_
              rotate_left
              · try dsimp only at hW
                go_simp
                try with_reducible rfl
              simp only [Act.put, List.setIfInBounds_toArray, List.set_cons_zero, List.set_cons_succ]
              refine ord_still 24 rfl (v := ?_) (by kernel_rfl) (fun _ _ _ h => h) rfl (fun W hW => ?_) hS ?_
              rotate_left
              · try dsimp only at hW
                go_simp
                try with_reducible rfl
              simp only [Act.put, List.setIfInBounds_toArray, List.set_cons_zero, List.set_cons_succ]
              refine ord_still 25 rfl (v := ?_) (by kernel_rfl) (fun _ _ _ h => h) rfl (fun W hW => ?_) hS ?_
              rotate_left
              · try dsimp only at hW
                go_simp
                try with_reducible rfl
              simp only [Act.put, List.setIfInBounds_toArray, List.set_cons_zero, List.set_cons_succ]
              refine ord_still 26 rfl (v := ?_) (by kernel_rfl) (fun _ _ _ h => h) rfl (fun W hW => ?_) hS ?_
              rotate_left
              · try dsimp only at hW
                go_simp
                try with_reducible rfl
              simp only [Act.put, List.setIfInBounds_toArray, List.set_cons_zero, List.set_cons_succ]
              refine ord_still 27 rfl (v := ?_) (by kernel_rfl) (fun _ _ _ h => h) rfl (fun W hW => ?_) hS ?_
              rotate_left
              · try dsimp only at hW
                go_simp
                try with_reducible rfl
              simp only [Act.put, List.setIfInBounds_toArray, List.set_cons_zero, List.set_cons_succ]
              refine ord_still 28 rfl (v := ?_) (by kernel_rfl) (fun _ _ _ h => h) rfl (fun W hW => ?_) hS ?_
              rotate_left
              · try dsimp only at hW
                go_simp
                try with_reducible rfl
              simp only [Act.put, List.setIfInBounds_toArray, List.set_cons_zero, List.set_cons_succ]
              refine ord_still 29 rfl (v := ?_) (by kernel_rfl) (fun _ _ _ h => h) rfl (fun W hW => ?_) hS ?_
              rotate_left
              · try dsimp only at hW
                go_simp
                try with_reducible rfl
              simp only [Act.put, List.setIfInBounds_toArray, List.set_cons_zero, List.set_cons_succ]
              refine ord_still 30 rfl (v := ?_) (by kernel_rfl) (fun _ _ _ h => h) rfl (fun W hW => ?_) hS ?_
              rotate_left
              · try dsimp only at hW
                go_simp
                try with_reducible rfl
              simp only [Act.put, List.setIfInBounds_toArray, List.set_cons_zero, List.set_cons_succ]
              refine ord_still 31 rfl (v := ?_) (by kernel_rfl) (fun _ _ _ h => h) rfl (fun W hW => ?_) hS ?_
              rotate_left
              · try dsimp only at hW
                go_simp
                try with_reducible rfl
              simp only [Act.put, List.setIfInBounds_toArray, List.set_cons_zero, List.set_cons_succ]
              refine ord_still 32 rfl (v := ?_) (by kernel_rfl) (fun _ _ _ h => h) rfl (fun W hW => ?_) hS ?_
              rotate_left
              · try dsimp only at hW
                go_simp
                try with_reducible rfl
              simp only [Act.put, List.setIfInBounds_toArray, List.set_cons_zero, List.set_cons_succ]
              refine ord_still 33 rfl (v := ?_) (by kernel_rfl) (fun _ _ _ h => h) rfl (fun W hW => ?_) hS ?_
              rotate_left
              · try dsimp only at hW
                go_simp
                try with_reducible rfl
              simp only [Act.put, List.setIfInBounds_toArray, List.set_cons_zero, List.set_cons_succ]
              refine ord_still 34 rfl (v := ?_) (by kernel_rfl) (fun _ _ _ h => h) rfl (fun W hW => ?_) hS ?_
              rotate_left
              · try dsimp only at hW
                go_simp
                try with_reducible rfl
              simp only [Act.put, List.setIfInBounds_toArray, List.set_cons_zero, List.set_cons_succ]
              refine ord_still 35 rfl (v := ?_) (by kernel_rfl) (fun _ _ _ h => h) rfl (fun W hW => ?_) hS ?_
              rotate_left
              · try dsimp only at hW
                go_simp
                try with_reducible rfl
              simp only [Act.put, List.setIfInBounds_toArray, List.set_cons_zero, List.set_cons_succ]
              refine ord_still 36 rfl (v := ?_) (by kernel_rfl) (fun _ _ _ h => h) rfl (fun W hW => ?_) hS ?_
              rotate_left
              · try dsimp only at hW
                go_simp
                try with_reducible rfl
              simp only [Act.put, List.setIfInBounds_toArray, List.set_cons_zero, List.set_cons_succ]
              refine ord_still 37 rfl (v := ?_) (by kernel_rfl) (fun _ _ _ h => h) rfl (fun W hW => ?_) hS ?_
              rotate_left
              · try dsimp only at hW
                go_simp
                try with_reducible rfl
              simp only [Act.put, List.setIfInBounds_toArray, List.set_cons_zero, List.set_cons_succ]
              refine ord_still 38 rfl (v := ?_) (by kernel_rfl) (fun _ _ _ h => h) rfl (fun W hW => ?_) hS ?_
              rotate_left
              · try dsimp only at hW
                go_simp
                try with_reducible rfl
              simp only [Act.put, List.setIfInBounds_toArray, List.set_cons_zero, List.set_cons_succ]
              refine ord_done (by kernel_rfl) ?_
              clear hS
              by_cases hnew : 0 ≤ m'
              · have u1 : decide (0 ≤ m') = true := decide_eq_true hnew
                have HDO := hid (show Turned SAl SBl (j + 1) (intoL now (((k1, k2), k3), m')) from by have h := HNX.out; unfold doC at h; rw [if_pos hnew] at h; exact h)
                obtain ⟨y0, y1, y2, y3, y4⟩ := HCX.out _ HB5.out
                go_wp2_with fail
                have hS : (w5.drew.drew.cell? ⟨bx, ox + j * 5, none⟩ = some (.int .u64 (k1 : Int)) ∧ w5.drew.drew.cell? ⟨bx, ox + j * 5 + 1, none⟩ = some (.int .u64 (k2 : Int)) ∧ w5.drew.drew.cell? ⟨bx, ox + j * 5 + 2, none⟩ = some (.int .i64 k3) ∧ w5.drew.drew.cell? ⟨bx, ox + j * 5 + 3, none⟩ = some (.int .i64 o) ∧ w5.drew.drew.cell? ⟨bx, ox + j * 5 + 4, none⟩ = some (.int .i64 m')) := HCX.out _ HB5.out.drew.drew
                refine wp_region_ord (fun w' => (w'.cell? ⟨bx, ox + j * 5, none⟩ = some (.int .u64 (k1 : Int)) ∧ w'.cell? ⟨bx, ox + j * 5 + 1, none⟩ = some (.int .u64 (k2 : Int)) ∧ w'.cell? ⟨bx, ox + j * 5 + 2, none⟩ = some (.int .i64 k3) ∧ w'.cell? ⟨bx, ox + j * 5 + 3, none⟩ = some (.int .i64 o) ∧ w'.cell? ⟨bx, ox + j * 5 + 4, none⟩ = some (.int .i64 m'))) (by kernel_rfl) hS ?_
                refine ord_still 0 rfl (v := ?_) (by kernel_rfl) (fun _ _ _ h => h) rfl (fun W hW => ?_) hS ?_
                rotate_left
                · try dsimp only at hW
                  go_simp
                  try with_reducible rfl
                simp only [Act.put, List.setIfInBounds_toArray, List.set_cons_zero, List.set_cons_succ]
                refine ord_still 1 rfl (v := ?_) (by kernel_rfl) (fun _ _ _ h => h) rfl (fun W hW => ?_) hS ?_
                rotate_left
                · try dsimp only at hW
                  go_simp
                  try with_reducible rfl
                simp only [Act.put, List.setIfInBounds_toArray, List.set_cons_zero, List.set_cons_succ]
                refine ord_still 2 rfl (v := ?_) (by kernel_rfl) (fun _ _ _ h => h) rfl (fun W hW => ?_) hS ?_
                rotate_left
                · try dsimp only at hW
                  go_simp
                  try with_reducible rfl
                simp only [Act.put, List.setIfInBounds_toArray, List.set_cons_zero, List.set_cons_succ]
                refine ord_still 3 rfl (v := ?_) (by kernel_rfl) (fun _ _ _ h => h) rfl (fun W hW => ?_) hS ?_
                rotate_left
                · try dsimp only at hW
                  go_simp
                  try with_reducible rfl
                simp only [Act.put, List.setIfInBounds_toArray, List.set_cons_zero, List.set_cons_succ]
                refine ord_still 4 rfl (v := ?_) (by kernel_rfl) (fun _ _ _ h => h) rfl (fun W hW => ?_) hS ?_
                rotate_left
                · try dsimp only at hW
                  go_simp
                  try with_reducible rfl
                simp only [Act.put, List.setIfInBounds_toArray, List.set_cons_zero, List.set_cons_succ]
                refine ord_still 5 rfl (v := ?_) (by kernel_rfl) (fun _ _ _ h => h) rfl (fun W hW => ?_) hS ?_
                rotate_left
                · try dsimp only at hW
                  go_simp
                  try with_reducible rfl
                simp only [Act.put, List.setIfInBounds_toArray, List.set_cons_zero, List.set_cons_succ]
                refine ord_still 6 rfl (v := ?_) (by kernel_rfl) (fun _ _ _ h => h) rfl (fun W hW => ?_) hS ?_
                rotate_left
                · try dsimp only at hW
                  go_simp
                  try with_reducible rfl
                simp only [Act.put, List.setIfInBounds_toArray, List.set_cons_zero, List.set_cons_succ]
                refine ord_still 7 rfl (v := ?_) (by kernel_rfl) (fun _ _ _ h => h) rfl (fun W hW => ?_) hS ?_
                rotate_left
                · try dsimp only at hW
                  go_simp
                  try with_reducible rfl
                simp only [Act.put, List.setIfInBounds_toArray, List.set_cons_zero, List.set_cons_succ]
                refine ord_still 8 rfl (v := ?_) (by kernel_rfl) (fun _ _ _ h => h) rfl (fun W hW => ?_) hS ?_
                rotate_left
                · try dsimp only at hW
                  go_simp
                  try with_reducible rfl
                simp only [Act.put, List.setIfInBounds_toArray, List.set_cons_zero, List.set_cons_succ]
                refine ord_still 9 rfl (v := ?_) (by kernel_rfl) (fun _ _ _ h => h) rfl (fun W hW => ?_) hS ?_
                rotate_left
                · try dsimp only at hW
                  go_simp
                  try with_reducible rfl
                simp only [Act.put, List.setIfInBounds_toArray, List.set_cons_zero, List.set_cons_succ]
                refine ord_still 10 rfl (v := ?_) (by kernel_rfl) (fun _ _ _ h => h) rfl (fun W hW => ?_) hS ?_
                rotate_left
                · try dsimp only at hW
                  go_simp
                  try with_reducible rfl
                simp only [Act.put, List.setIfInBounds_toArray, List.set_cons_zero, List.set_cons_succ]
                refine ord_still 11 rfl (v := ?_) (by kernel_rfl) (fun _ _ _ h => h) rfl (fun W hW => ?_) hS ?_
                rotate_left
                · try dsimp only at hW
                  go_simp
                  try with_reducible rfl
                simp only [Act.put, List.setIfInBounds_toArray, List.set_cons_zero, List.set_cons_succ]
                refine ord_alone 12 rfl (by kernel_rfl) rfl (fun K hK => ?_)
                go_simp
                refine (cI.out _ (HBb5.out.drew.drew)).mono ?_
                rintro _ w6 ⟨v6, rfl, hO6, hb6⟩
                have HB6 := hid (held_next HB5.out.drew.drew hb6)
                have HR6 := hid hO6.rd
                clear hO6 hb6 y0 y1 y2 y3 y4
                clear hS
                have hS : (w6.cell? ⟨bx, ox + j * 5, none⟩ = some (.int .u64 (k1 : Int)) ∧ w6.cell? ⟨bx, ox + j * 5 + 1, none⟩ = some (.int .u64 (k2 : Int)) ∧ w6.cell? ⟨bx, ox + j * 5 + 2, none⟩ = some (.int .i64 k3) ∧ w6.cell? ⟨bx, ox + j * 5 + 3, none⟩ = some (.int .i64 o) ∧ w6.cell? ⟨bx, ox + j * 5 + 4, none⟩ = some (.int .i64 m')) := HCX.out _ HB6.out
                refine hK.out _ _ hS ?_
                clear hK
                refine ord_still 13 rfl (v := ?_) (by kernel_rfl) (fun _ _ _ h => h) rfl (fun W hW => ?_) hS ?_
                rotate_left
                · try dsimp only at hW
                  go_simp
                  try with_reducible rfl
                simp only [Act.put, List.setIfInBounds_toArray, List.set_cons_zero, List.set_cons_succ]
                refine ord_done (by kernel_rfl) ?_
                clear hS
                go_wp2_with fail
                go_roundw
                case rel => exact ⟨j + 1, _, by go_num, by rw [HNN.out]; have := HJ.out; omega, HDO.out, HR6.out, HB6.out⟩
                case measure => have := HJ.out; simp [intOf]; omega
              · have u1 : decide (0 ≤ m') = false := decide_eq_false hnew
                have HDO := hid (show Turned SAl SBl (j + 1) (withoutL now ((k1, k2), k3)) from by have h := HNX.out; unfold doC at h; rw [if_neg hnew] at h; exact h)
                obtain ⟨y0, y1, y2, y3, y4⟩ := HCX.out _ HB5.out
                go_wp2_with fail
                refine (cW.out _ HBb5.out.drew).mono ?_
                rintro _ w6 ⟨v6, rfl, hO6, hb6⟩
                have HB6 := hid (held_next HB5.out.drew hb6)
                have HR6 := hid hO6.rd
                clear hO6 hb6 y0 y1 y2 y3 y4
                go_wp2_with fail
                go_roundw
                case rel => exact ⟨j + 1, _, by go_num, by rw [HNN.out]; have := HJ.out; omega, HDO.out, HR6.out, HB6.out⟩
                case measure => have := HJ.out; simp [intOf]; omega
          · have c3 : ¬ (j : Int) < (N : Int) := by omega
            have HE := hid (HT.out.end SA.out SB.out (by rw [HNN.out]; omega))
            have HBW := hid (HB3.out.trans (HB.out.mono HB3.out.size))
            have cT1 := hid (cT.out _ HBW.out)
            clear hR cT
            go_wp2_with fail
            refine cT1.out.mono ?_
            rintro _ w6 ⟨v6, rfl, hO6, hb6⟩
            have HB6 := hid (held_next HBW.out hb6)
            have cE := hid (ref_sameRts w6 _ v6 now SBl (HRW.out.below rtEn_length hb6) hO6.rd true (by rw [HE.out]; simp))
            clear hO6 hb6 cT1
            go_wp2_with fail
            refine cE.out.mono ?_
            rintro _ w7 ⟨rfl, hb7⟩
            have HB7 := hid (held_next HB6.out hb7)
            clear hb7 cE
            go_wp2_with fail
            go_ret
            exact ⟨rfl, HB7.out⟩

theorem deltaTurns_walk (W : World) (v1 : Value) (l1 : List Rt) (R1 : Rd rtEn 4 W v1 l1) (ok1 : ∀ x ∈ l1, Rt.fit x) (v2 : Value) (l2 : List Rt) (R2 : Rd rtEn 4 W v2 l2) (ok2 : ∀ x ∈ l2, Rt.fit x) :
    Calls Try.prog 4 #[v1, v2] W fun e W' => e = .returned (.bool true) ∧ Below W.heap.size W W' := by
  by_cases h : l1.length ≤ 40 ∧ l2.length ≤ 40
  · exact deltaTurns_in W v1 l1 R1 v2 l2 R2 h.1 h.2
  · obtain ⟨A, cap, rfl, n1, m1⟩ := R1.form
    obtain ⟨B, cap2, rfl, n2, m2⟩ := R2.form
    exact deltaTurns_out W A _ cap n1 m1 B _ cap2 n2 m2 h

end Go.Proofs.Ytcchjljdhjkmeaa
