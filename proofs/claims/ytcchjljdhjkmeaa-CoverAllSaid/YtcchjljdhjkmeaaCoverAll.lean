/-
  The law CoverAll: an address has a key of a level just if it has a route of its lengths, and then with the hop of the longest. No condition.
-/
import Derived.Test.YtcchjljdhjkmeaaCoverLaw
namespace Go.Proofs.Ytcchjljdhjkmeaa
open Go.RowKit
set_option linter.unusedVariables false
set_option linter.unusedSimpArgs false
set_option maxRecDepth 100000
attribute [local go_sem high] eq_ad eq_pf

theorem coverAll_out (W : World) (A : Option Addr) (n cap : Nat) (hn : n ≤ cap) (hc : cap ≤ maxLen) (a : Ad) (low high : Int) (wl : -9223372036854775808 ≤ low ∧ low ≤ 9223372036854775807) (wh : -9223372036854775808 ≤ high ∧ high ≤ 9223372036854775807) (h : ¬ (n ≤ 40 ∧ -1 ≤ low ∧ high ≤ 128 ∧ low < high ∧ high - low ≤ 8)) :
    Calls Try.prog 6 #[.slice A n cap, .agg #[.int .u64 (a.1 : Int), .int .u64 (a.2 : Int)], .int .i64 low, .int .i64 high] W fun e W' => e = .returned (.bool true) ∧ Below W.heap.size W W' := by
  unfold maxLen at hc
  obtain ⟨ax, ay⟩ := a
  by_cases h1 : n ≤ 40
  · have c1 : ¬ (n : Int) > 40 := by omega
    by_cases h2 : -1 ≤ low
    · have c2 : ¬ low < -1 := by omega
      by_cases h3 : high ≤ 128
      · have c3 : ¬ high > 128 := by omega
        by_cases h4 : low < high
        · have c4 : ¬ high ≤ low := by omega
          have c5 : high - low > 8 := by omega
          have c6 : IntKind.i64.wrap (high - low) = high - low := by rw [IntKind.wrap_i64]; omega
          clear h h1 h2 h3 h4
          go_enter Try.func6, Try.ntmps6
          go_wp2_with fail
          refine (cover_alive _).mono ?_
          rintro _ w1 ⟨rfl, hb⟩
          have HB := hid (((Below.refl W.heap.size W).alloc (Nat.le_refl _) (.cells #[.int .u64 (ax : Int), .int .u64 (ay : Int)] 35)).trans (hb.mono (by simp)))
          clear hb
          go_wp2_with fail
          go_ret
          exact ⟨rfl, HB.out⟩
        · have c4 : high ≤ low := by omega
          clear h h1 h2 h3 h4
          go_enter Try.func6, Try.ntmps6
          go_wp2_with fail
          refine (cover_alive _).mono ?_
          rintro _ w1 ⟨rfl, hb⟩
          have HB := hid (((Below.refl W.heap.size W).alloc (Nat.le_refl _) (.cells #[.int .u64 (ax : Int), .int .u64 (ay : Int)] 35)).trans (hb.mono (by simp)))
          clear hb
          go_wp2_with fail
          go_ret
          exact ⟨rfl, HB.out⟩
      · have c3 : high > 128 := by omega
        clear h h1 h2 h3
        go_enter Try.func6, Try.ntmps6
        go_wp2_with fail
        refine (cover_alive _).mono ?_
        rintro _ w1 ⟨rfl, hb⟩
        have HB := hid (((Below.refl W.heap.size W).alloc (Nat.le_refl _) (.cells #[.int .u64 (ax : Int), .int .u64 (ay : Int)] 35)).trans (hb.mono (by simp)))
        clear hb
        go_wp2_with fail
        go_ret
        exact ⟨rfl, HB.out⟩
    · have c2 : low < -1 := by omega
      clear h h1 h2
      go_enter Try.func6, Try.ntmps6
      go_wp2_with fail
      refine (cover_alive _).mono ?_
      rintro _ w1 ⟨rfl, hb⟩
      have HB := hid (((Below.refl W.heap.size W).alloc (Nat.le_refl _) (.cells #[.int .u64 (ax : Int), .int .u64 (ay : Int)] 35)).trans (hb.mono (by simp)))
      clear hb
      go_wp2_with fail
      go_ret
      exact ⟨rfl, HB.out⟩
  · have c1 : (n : Int) > 40 := by omega
    clear h h1
    go_enter Try.func6, Try.ntmps6
    go_wp2_with fail
    refine (cover_alive _).mono ?_
    rintro _ w1 ⟨rfl, hb⟩
    have HB := hid (((Below.refl W.heap.size W).alloc (Nat.le_refl _) (.cells #[.int .u64 (ax : Int), .int .u64 (ay : Int)] 35)).trans (hb.mono (by simp)))
    clear hb
    go_wp2_with fail
    go_ret
    exact ⟨rfl, HB.out⟩

def CaRel (w1 : World) (n : Nat) (i : Value) (wr : World) : Prop := ∃ j : Nat, j ≤ n ∧ i = .int .i64 j ∧ Below w1.heap.size w1 wr
set_option maxHeartbeats 8000000 in
theorem coverAll_in (W : World) (v : Value) (l : List Rt) (R : Rd rtEn 4 W v l) (hok : ∀ r ∈ l, r.1.1.ok) (a : Ad) (ha : a.ok) (low : Int) (high : Nat) (h1 : l.length ≤ 40) (h2 : -1 ≤ low) (h3 : high ≤ 128) (h4 : low < high) (h5 : (high : Int) - low ≤ 8) :
    Calls Try.prog 6 #[v, .agg #[.int .u64 (a.1 : Int), .int .u64 (a.2 : Int)], .int .i64 low, .int .i64 (high : Int)] W fun e W' => e = .returned (.bool true) ∧ Below W.heap.size W W' := by
  have HR := hid fun k x (h : l[k]? = some x) => R.get rtEn_length (by decide) h
  have HOK := hid hok
  have HLAW := hid (cover_law hok ha h2 h4 h3 h5)
  have cSet := hid (fun (w' : World) (h : Below W.heap.size W w') => cover_set w' v l (R.below rtEn_length h) hok (by omega) low (high : Int))
  have cSrt := hid (fun (w' : World) (h : Below W.heap.size W w') => ref_sorted w' v l (R.below rtEn_length h) (by omega))
  have cCut := hid (fun (w' : World) => ref_cutN a ha high h3 _ rfl w')
  have cFind := hid (fun (w' : World) (v' : Value) (S : List Rt) (h : Rd rtEn 4 w' v' S) => ref_find w' v' S h (a.cut high, (high : Int)))
  have cLon := hid (fun (w' : World) (v' : Value) (h : Rd rtEn 4 w' v' (sortedL l)) => ref_longest w' v' (sortedL l) h (fun r hr => hok r (sorted_mem hr)) a ha low (high : Int))
  generalize setL l low (high : Int) = S at cSet HLAW
  generalize sortedL l = T at cSrt cLon HLAW
  generalize a.cut high = ac at cCut cFind HLAW
  obtain ⟨acx, acy⟩ := ac
  obtain ⟨A, cap, rfl, n1, m1⟩ := R.form
  unfold maxLen at m1
  clear R hok
  obtain ⟨n, hn⟩ : ∃ n, l.length = n := ⟨_, rfl⟩
  have HN := hid hn
  rw [hn] at cSet cSrt n1 h1 ⊢
  clear hn
  obtain ⟨ax, ay⟩ := a
  have c1 : ¬ (n : Int) > 40 := by omega
  have c2 : ¬ low < -1 := by omega
  have c3 : ¬ (high : Int) > 128 := by omega
  have c4 : ¬ (high : Int) ≤ low := by omega
  have c5 : ¬ (high : Int) - low > 8 := by omega
  have c6 : IntKind.i64.wrap ((high : Int) - low) = (high : Int) - low := by rw [IntKind.wrap_i64]; omega
  have hg := guard_pf
  go_enter Try.func6, Try.ntmps6
  go_wp2_with fail
  refine (cover_alive _).mono ?_
  rintro _ w1 ⟨rfl, hb⟩
  have BP1 := hid ((Blk.new W [.int .u64 (ax : Int), .int .u64 (ay : Int)] 35).below' hb)
  have HB1 := hid (((Below.refl W.heap.size W).alloc (Nat.le_refl _) (.cells #[.int .u64 (ax : Int), .int .u64 (ay : Int)] 35)).trans (hb.mono (by simp)))
  clear hb
  go_wp2_with fail
  go_loopw [10] (fun i wr => CaRel w1 n i wr) (fun i _ => n - (intOf i).toNat)
  case atStart => exact ⟨0, Nat.zero_le _, rfl, Below.refl _ _⟩
  case round =>
    obtain ⟨j, hj, rfl, hB⟩ := hrel
    have HB := hid hB
    have HBW := hid (HB1.out.trans (hB.mono HB1.out.size))
    clear hB
    by_cases hjn : j < n
    · obtain ⟨x, hx⟩ : ∃ x, l[j]? = some x := ⟨_, List.getElem?_eq_getElem (by rw [HN.out]; exact hjn)⟩
      obtain ⟨bx, ox, qx, hvx, _, _, lx, sx⟩ := HR.out j x hx
      injection hvx with a1 a2 a3
      subst a1 a3
      have y0 : wr.cell? ⟨bx, ox + j * 4, none⟩ = some (.int .u64 (x.1.1.1 : Int)) := (HBW.out.cell (p := ⟨bx, ox + j * 4, none⟩) lx).trans (sx 0 _ rfl)
      have y1 : wr.cell? ⟨bx, ox + j * 4 + 1, none⟩ = some (.int .u64 (x.1.1.2 : Int)) := (HBW.out.cell (p := ⟨bx, ox + j * 4 + 1, none⟩) lx).trans (sx 1 _ rfl)
      have y2 : wr.cell? ⟨bx, ox + j * 4 + 2, none⟩ = some (.int .i64 x.1.2) := (HBW.out.cell (p := ⟨bx, ox + j * 4 + 2, none⟩) lx).trans (sx 2 _ rfl)
      obtain ⟨rt, hrt⟩ : ∃ b, b = decide (Pf.right x.1) := ⟨_, rfl⟩
      have cR := hid (fun w => ref_right x.1.1 (HOK.out x (List.mem_of_getElem? hx)) x.1.2 rt (by rw [hrt]) w)
      have j0 : (0 : Int) ≤ (j : Int) := by omega
      have j1 : (j : Int) < (n : Int) := by omega
      have HJ := hid hjn
      clear a2 sx lx hx hrt hjn
      obtain ⟨⟨⟨x1, x2⟩, x3⟩, x4⟩ := x
      simp only at y0 y1 y2 cR
      go_wp2_with fail
      refine (cR.out _).mono ?_
      rintro _ w3 ⟨rfl, hb3⟩
      have HB3 := hid (held_next HB.out hb3)
      have HW3 := hid (held_next HBW.out hb3)
      clear hb3 cR y0 y1 y2
      cases rt with
      | false =>
        go_wp2_with fail
        go_ret
        exact ⟨rfl, HW3.out⟩
      | true =>
        go_wp2_with fail
        go_roundw
        case rel => exact ⟨j + 1, by have := HJ.out; omega, by go_num, HB3.out⟩
        case measure => have := HJ.out; simp [intOf]; omega
    · have c7 : ¬ (j : Int) < (n : Int) := by omega
      have BP2 := hid (BP1.out.below' HB.out)
      have cSet2 := hid (cSet.out _ HBW.out)
      clear cSet
      go_wp2_with fail
      refine cSet2.out.mono ?_
      rintro _ w3 ⟨vs, rfl, hOs, hb3⟩
      have HW3 := hid (held_next HBW.out hb3)
      have BP3 := hid (BP2.out.below' hb3)
      have HRS := hid hOs.rd
      have p0 := BP3.out.cellv (i := 0) rfl
      have p1 := BP3.out.cellv (i := 1) rfl
      clear hOs hb3 cSet2 BP2
      go_wp2_with fail
      refine (cCut.out _).mono ?_
      rintro _ w4 ⟨rfl, hb4⟩
      have HW4 := hid (held_next HW3.out hb4)
      have BP4 := hid (BP3.out.below' hb4)
      have HRS4 := hid (HRS.out.below rtEn_length hb4)
      have cF := hid (cFind.out w4 vs S HRS4.out)
      clear hb4 cCut p0 p1 HRS BP3
      go_wp2_with fail
      refine cF.out.mono ?_
      rintro _ w5 ⟨rfl, hb5⟩
      have HW5 := hid (held_next HW4.out hb5)
      have BP5 := hid (BP4.out.below' hb5)
      have HRS5 := hid (HRS4.out.below rtEn_length hb5)
      have cS5 := hid (cSrt.out _ HW5.out)
      clear hb5 cF HRS4 BP4 cSrt
      go_wp2_with fail
      refine cS5.out.mono ?_
      rintro _ w6 ⟨vt, rfl, hOt, hb6⟩
      have HW6 := hid (held_next HW5.out hb6)
      have BP6 := hid (BP5.out.below' hb6)
      have HRS6 := hid (HRS5.out.below rtEn_length hb6)
      have HRT6 := hid (show Rd rtEn 4 w6 vt T from hOt.rd)
      have cL := hid (cLon.out w6 vt HRT6.out)
      have p0 := BP6.out.cellv (i := 0) rfl
      have p1 := BP6.out.cellv (i := 1) rfl
      clear hb6 hOt cS5 HRS5 BP5 cLon
      go_wp2_with fail
      refine cL.out.mono ?_
      rintro _ w7 ⟨rfl, hb7⟩
      have HW7 := hid (held_next HW6.out hb7)
      have HRS7 := hid (HRS6.out.below rtEn_length hb7)
      have HRT7 := hid (HRT6.out.below rtEn_length hb7)
      clear hb7 cL p0 p1 HRS6 HRT6 BP6
      rcases HLAW.out with ⟨f1, f2⟩ | ⟨i, k, x, y, f1, f2, gx, gy, exy⟩
      · rw [f1, f2]
        clear f1 f2
        go_wp2_with fail
        have hS : True := trivial
        refine wp_region_ord (fun w' => True) (by kernel_rfl) hS ?_
        refine ord_still 0 rfl (v := ?_) (by kernel_rfl) (fun _ _ _ h => h) rfl (fun W hW => ?_) hS ?_
        rotate_left
        · try dsimp only at hW
          go_simp
          try with_reducible rfl
        simp only [Act.put, List.setIfInBounds_toArray, List.set_cons_zero, List.set_cons_succ]
        refine ord_still 1 rfl (v := ?_) (by kernel_rfl) (fun _ _ _ h => h) rfl (fun W hW => ?_) hS ?_
        rotate_left
        · try dsimp only at hW
          go_simp
          try with_reducible rfl
        simp only [Act.put, List.setIfInBounds_toArray, List.set_cons_zero, List.set_cons_succ]
        refine ord_still 2 rfl (v := ?_) (by kernel_rfl) (fun _ _ _ h => h) rfl (fun W hW => ?_) hS ?_
        rotate_left
        · try dsimp only at hW
          go_simp
          try with_reducible rfl
        simp only [Act.put, List.setIfInBounds_toArray, List.set_cons_zero, List.set_cons_succ]
        refine ord_still 3 rfl (v := ?_) (by kernel_rfl) (fun _ _ _ h => h) rfl (fun W hW => ?_) hS ?_
        rotate_left
        · try dsimp only at hW
          go_simp
          try with_reducible rfl
        simp only [Act.put, List.setIfInBounds_toArray, List.set_cons_zero, List.set_cons_succ]
        refine ord_still 4 rfl (v := ?_) (by kernel_rfl) (fun _ _ _ h => h) rfl (fun W hW => ?_) hS ?_
        rotate_left
        · try dsimp only at hW
          go_simp
          try with_reducible rfl
        simp only [Act.put, List.setIfInBounds_toArray, List.set_cons_zero, List.set_cons_succ]
        refine ord_still 5 rfl (v := ?_) (by kernel_rfl) (fun _ _ _ h => h) rfl (fun W hW => ?_) hS ?_
        rotate_left
        · try dsimp only at hW
          go_simp
          try with_reducible rfl
        simp only [Act.put, List.setIfInBounds_toArray, List.set_cons_zero, List.set_cons_succ]
        refine ord_still 6 rfl (v := ?_) (by kernel_rfl) (fun _ _ _ h => h) rfl (fun W hW => ?_) hS ?_
        rotate_left
        · try dsimp only at hW
          go_simp
          try with_reducible rfl
        simp only [Act.put, List.setIfInBounds_toArray, List.set_cons_zero, List.set_cons_succ]
        refine ord_still 7 rfl (v := ?_) (by kernel_rfl) (fun _ _ _ h => h) rfl (fun W hW => ?_) hS ?_
        rotate_left
        · try dsimp only at hW
          go_simp
          try with_reducible rfl
        simp only [Act.put, List.setIfInBounds_toArray, List.set_cons_zero, List.set_cons_succ]
        refine ord_still 8 rfl (v := ?_) (by kernel_rfl) (fun _ _ _ h => h) rfl (fun W hW => ?_) hS ?_
        rotate_left
        · try dsimp only at hW
          go_simp
          try with_reducible rfl
        simp only [Act.put, List.setIfInBounds_toArray, List.set_cons_zero, List.set_cons_succ]
        refine ord_skip 9 rfl (by kernel_rfl) (fun _ _ _ h => h) rfl hS ?_
        simp only [Act.put, List.setIfInBounds_toArray, List.set_cons_zero, List.set_cons_succ]
        refine ord_skip 10 rfl (by kernel_rfl) (fun _ _ _ h => h) rfl hS ?_
        simp only [Act.put, List.setIfInBounds_toArray, List.set_cons_zero, List.set_cons_succ]
        refine ord_skip 11 rfl (by kernel_rfl) (fun _ _ _ h => h) rfl hS ?_
        simp only [Act.put, List.setIfInBounds_toArray, List.set_cons_zero, List.set_cons_succ]
        refine ord_skip 12 rfl (by kernel_rfl) (fun _ _ _ h => h) rfl hS ?_
        simp only [Act.put, List.setIfInBounds_toArray, List.set_cons_zero, List.set_cons_succ]
        refine ord_skip 13 rfl (by kernel_rfl) (fun _ _ _ h => h) rfl hS ?_
        simp only [Act.put, List.setIfInBounds_toArray, List.set_cons_zero, List.set_cons_succ]
        refine ord_skip 14 rfl (by kernel_rfl) (fun _ _ _ h => h) rfl hS ?_
        simp only [Act.put, List.setIfInBounds_toArray, List.set_cons_zero, List.set_cons_succ]
        refine ord_skip 15 rfl (by kernel_rfl) (fun _ _ _ h => h) rfl hS ?_
        simp only [Act.put, List.setIfInBounds_toArray, List.set_cons_zero, List.set_cons_succ]
        refine ord_skip 16 rfl (by kernel_rfl) (fun _ _ _ h => h) rfl hS ?_
        simp only [Act.put, List.setIfInBounds_toArray, List.set_cons_zero, List.set_cons_succ]
        refine ord_skip 17 rfl (by kernel_rfl) (fun _ _ _ h => h) rfl hS ?_
        simp only [Act.put, List.setIfInBounds_toArray, List.set_cons_zero, List.set_cons_succ]
        refine ord_skip 18 rfl (by kernel_rfl) (fun _ _ _ h => h) rfl hS ?_
        simp only [Act.put, List.setIfInBounds_toArray, List.set_cons_zero, List.set_cons_succ]
        refine ord_skip 19 rfl (by kernel_rfl) (fun _ _ _ h => h) rfl hS ?_
        simp only [Act.put, List.setIfInBounds_toArray, List.set_cons_zero, List.set_cons_succ]
        refine ord_still 20 rfl (v := ?_) (by kernel_rfl) (fun _ _ _ h => h) rfl (fun W hW => ?_) hS ?_
        rotate_left
        · try dsimp only at hW
          go_simp
          try with_reducible rfl
        simp only [Act.put, List.setIfInBounds_toArray, List.set_cons_zero, List.set_cons_succ]
        refine ord_still 21 rfl (v := ?_) (by kernel_rfl) (fun _ _ _ h => h) rfl (fun W hW => ?_) hS ?_
        rotate_left
        · try dsimp only at hW
          go_simp
          try with_reducible rfl
        simp only [Act.put, List.setIfInBounds_toArray, List.set_cons_zero, List.set_cons_succ]
        refine ord_still 22 rfl (v := ?_) (by kernel_rfl) (fun _ _ _ h => h) rfl (fun W hW => ?_) hS ?_
        rotate_left
        · try dsimp only at hW
          go_simp
          try with_reducible rfl
        simp only [Act.put, List.setIfInBounds_toArray, List.set_cons_zero, List.set_cons_succ]
        refine ord_done (by kernel_rfl) ?_
        clear hS
        go_wp2_with fail
        go_ret
        exact ⟨rfl, HW7.out.drew⟩
      · rw [f1, f2]
        obtain ⟨bs, os, qs, hvs, _, _, ls, ss⟩ := HRS7.out.get rtEn_length (by decide) gx
        obtain ⟨bt, ot, qt, hvt, _, _, lt, st⟩ := HRT7.out.get rtEn_length (by decide) gy
        have z1 : w7.cell? ⟨bs, os + i * 4 + 3, none⟩ = some (.int .i64 x.2) := ss 3 _ rfl
        have z2 : w7.cell? ⟨bt, ot + k * 4 + 3, none⟩ = some (.int .i64 x.2) := by rw [exy]; exact st 3 _ rfl
        have hi := (List.getElem?_eq_some_iff.1 gx).1
        have hk := (List.getElem?_eq_some_iff.1 gy).1
        subst hvs hvt
        obtain ⟨ns, hns⟩ : ∃ n, S.length = n := ⟨_, rfl⟩
        obtain ⟨nt, hnt⟩ : ∃ n, T.length = n := ⟨_, rfl⟩
        rw [hns] at hi ⊢
        rw [hnt] at hk ⊢
        have i0 : (0 : Int) ≤ (i : Int) := by omega
        have i1 : (i : Int) < (ns : Int) := by omega
        have k0 : (0 : Int) ≤ (k : Int) := by omega
        have k1 : (k : Int) < (nt : Int) := by omega
        have k2 : ¬ (k : Int) < 0 := by omega
        have HZ := hid (And.intro z1 z2)
        generalize x.2 = hop at z1 z2 HZ
        clear f1 f2 gx gy exy ls ss lt st hi hk hns hnt
        go_wp2_with fail
        have hS : (w7.drew.cell? ⟨bs, os + i * 4 + 3, none⟩ = some (.int .i64 hop)) ∧ (w7.drew.cell? ⟨bt, ot + k * 4 + 3, none⟩ = some (.int .i64 hop)) := HZ.out
        refine wp_region_ord (fun w' => (w'.cell? ⟨bs, os + i * 4 + 3, none⟩ = some (.int .i64 hop)) ∧ (w'.cell? ⟨bt, ot + k * 4 + 3, none⟩ = some (.int .i64 hop))) (by kernel_rfl) hS ?_
        refine ord_still 0 rfl (v := ?_) (by kernel_rfl) (fun _ _ _ h => h) rfl (fun W hW => ?_) hS ?_
        rotate_left
        · try dsimp only at hW
          go_simp
          try with_reducible rfl
        simp only [Act.put, List.setIfInBounds_toArray, List.set_cons_zero, List.set_cons_succ]
        refine ord_still 1 rfl (v := ?_) (by kernel_rfl) (fun _ _ _ h => h) rfl (fun W hW => ?_) hS ?_
        rotate_left
        · try dsimp only at hW
          go_simp
          try with_reducible rfl
        simp only [Act.put, List.setIfInBounds_toArray, List.set_cons_zero, List.set_cons_succ]
        refine ord_still 2 rfl (v := ?_) (by kernel_rfl) (fun _ _ _ h => h) rfl (fun W hW => ?_) hS ?_
        rotate_left
        · try dsimp only at hW
          go_simp
          try with_reducible rfl
        simp only [Act.put, List.setIfInBounds_toArray, List.set_cons_zero, List.set_cons_succ]
        refine ord_still 3 rfl (v := ?_) (by kernel_rfl) (fun _ _ _ h => h) rfl (fun W hW => ?_) hS ?_
        rotate_left
        · try dsimp only at hW
          go_simp
          try with_reducible rfl
        simp only [Act.put, List.setIfInBounds_toArray, List.set_cons_zero, List.set_cons_succ]
        refine ord_still 4 rfl (v := ?_) (by kernel_rfl) (fun _ _ _ h => h) rfl (fun W hW => ?_) hS ?_
        rotate_left
        · try dsimp only at hW
          go_simp
          try with_reducible rfl
        simp only [Act.put, List.setIfInBounds_toArray, List.set_cons_zero, List.set_cons_succ]
        refine ord_still 5 rfl (v := ?_) (by kernel_rfl) (fun _ _ _ h => h) rfl (fun W hW => ?_) hS ?_
        rotate_left
        · try dsimp only at hW
          go_simp
          try with_reducible rfl
        simp only [Act.put, List.setIfInBounds_toArray, List.set_cons_zero, List.set_cons_succ]
        refine ord_still 6 rfl (v := ?_) (by kernel_rfl) (fun _ _ _ h => h) rfl (fun W hW => ?_) hS ?_
        rotate_left
        · try dsimp only at hW
          go_simp
          try with_reducible rfl
        simp only [Act.put, List.setIfInBounds_toArray, List.set_cons_zero, List.set_cons_succ]
        refine ord_still 7 rfl (v := ?_) (by kernel_rfl) (fun _ _ _ h => h) rfl (fun W hW => ?_) hS ?_
        rotate_left
        · try dsimp only at hW
          go_simp
          try with_reducible rfl
        simp only [Act.put, List.setIfInBounds_toArray, List.set_cons_zero, List.set_cons_succ]
        refine ord_still 8 rfl (v := ?_) (by kernel_rfl) (fun _ _ _ h => h) rfl (fun W hW => ?_) hS ?_
        rotate_left
        · try dsimp only at hW
          go_simp
          try with_reducible rfl
        simp only [Act.put, List.setIfInBounds_toArray, List.set_cons_zero, List.set_cons_succ]
        refine ord_still 9 rfl (v := ?_) (by kernel_rfl) (fun _ _ _ h => h) rfl (fun W hW => ?_) hS ?_
        rotate_left
        · try dsimp only at hW
          go_simp
          try with_reducible rfl
        simp only [Act.put, List.setIfInBounds_toArray, List.set_cons_zero, List.set_cons_succ]
        refine ord_still 10 rfl (v := ?_) (by kernel_rfl) (fun _ _ _ h => h) rfl (fun W hW => ?_) hS ?_
        rotate_left
        · try dsimp only at hW
          go_simp
          try with_reducible rfl
        simp only [Act.put, List.setIfInBounds_toArray, List.set_cons_zero, List.set_cons_succ]
        refine ord_still 11 rfl (v := ?_) (by kernel_rfl) (fun _ _ _ h => h) rfl (fun W hW => ?_) hS ?_
        rotate_left
        · try dsimp only at hW
          go_simp
          try with_reducible rfl
        simp only [Act.put, List.setIfInBounds_toArray, List.set_cons_zero, List.set_cons_succ]
        refine ord_still 12 rfl (v := ?_) (by kernel_rfl) (fun _ _ _ h => h) rfl (fun W hW => ?_) hS ?_
        rotate_left
        · try dsimp only at hW
          go_simp
          try with_reducible rfl
        simp only [Act.put, List.setIfInBounds_toArray, List.set_cons_zero, List.set_cons_succ]
        refine ord_still 13 rfl (v := ?_) (by kernel_rfl) (fun _ _ _ h => h) rfl (fun W hW => ?_) hS ?_
        rotate_left
        · try dsimp only at hW
          go_simp
          try with_reducible rfl
        simp only [Act.put, List.setIfInBounds_toArray, List.set_cons_zero, List.set_cons_succ]
        refine ord_still 14 rfl (v := ?_) (by kernel_rfl) (fun _ _ _ h => h) rfl (fun W hW => ?_) hS ?_
        rotate_left
        · try dsimp only at hW
          go_simp
          try with_reducible rfl
        simp only [Act.put, List.setIfInBounds_toArray, List.set_cons_zero, List.set_cons_succ]
        refine ord_still 15 rfl (v := ?_) (by kernel_rfl) (fun _ _ _ h => h) rfl (fun W hW => ?_) hS ?_
        rotate_left
        · try dsimp only at hW
          go_simp
          try with_reducible rfl
        simp only [Act.put, List.setIfInBounds_toArray, List.set_cons_zero, List.set_cons_succ]
        refine ord_still 16 rfl (v := ?_) (by kernel_rfl) (fun _ _ _ h => h) rfl (fun W hW => ?_) hS ?_
        rotate_left
        · try dsimp only at hW
          go_simp
          try with_reducible rfl
        simp only [Act.put, List.setIfInBounds_toArray, List.set_cons_zero, List.set_cons_succ]
        refine ord_still 17 rfl (v := ?_) (by kernel_rfl) (fun _ _ _ h => h) rfl (fun W hW => ?_) hS ?_
        rotate_left
        · try dsimp only at hW
          go_simp
          try with_reducible rfl
        simp only [Act.put, List.setIfInBounds_toArray, List.set_cons_zero, List.set_cons_succ]
        refine ord_still 18 rfl (v := ?_) (by kernel_rfl) (fun _ _ _ h => h) rfl (fun W hW => ?_) hS ?_
        rotate_left
        · try dsimp only at hW
          go_simp
          try with_reducible rfl
        simp only [Act.put, List.setIfInBounds_toArray, List.set_cons_zero, List.set_cons_succ]
        refine ord_still 19 rfl (v := ?_) (by kernel_rfl) (fun _ _ _ h => h) rfl (fun W hW => ?_) hS ?_
        rotate_left
        · try dsimp only at hW
          go_simp
          try with_reducible rfl
        simp only [Act.put, List.setIfInBounds_toArray, List.set_cons_zero, List.set_cons_succ]
        refine ord_still 20 rfl (v := ?_) (by kernel_rfl) (fun _ _ _ h => h) rfl (fun W hW => ?_) hS ?_
        rotate_left
        · try dsimp only at hW
          go_simp
          try with_reducible rfl
        simp only [Act.put, List.setIfInBounds_toArray, List.set_cons_zero, List.set_cons_succ]
        refine ord_still 21 rfl (v := ?_) (by kernel_rfl) (fun _ _ _ h => h) rfl (fun W hW => ?_) hS ?_
        rotate_left
        · try dsimp only at hW
          go_simp
          try with_reducible rfl
        simp only [Act.put, List.setIfInBounds_toArray, List.set_cons_zero, List.set_cons_succ]
        refine ord_still 22 rfl (v := ?_) (by kernel_rfl) (fun _ _ _ h => h) rfl (fun W hW => ?_) hS ?_
        rotate_left
        · try dsimp only at hW
          go_simp
          try with_reducible rfl
        simp only [Act.put, List.setIfInBounds_toArray, List.set_cons_zero, List.set_cons_succ]
        refine ord_done (by kernel_rfl) ?_
        clear hS
        go_wp2_with fail
        go_ret
        exact ⟨rfl, HW7.out.drew⟩

theorem coverAll_walk (W : World) (v : Value) (l : List Rt) (R : Rd rtEn 4 W v l) (ok : ∀ x ∈ l, Rt.fit x) (a : Ad) (ha : a.ok) (low : Int) (wl : (Lit.int .i64 low).wf = true) (high : Int) (wh : (Lit.int .i64 high).wf = true) :
    Calls Try.prog 6 #[v, .agg #[.int .u64 (a.1 : Int), .int .u64 (a.2 : Int)], .int .i64 low, .int .i64 high] W fun e W' => e = .returned (.bool true) ∧ Below W.heap.size W W' := by
  by_cases h : l.length ≤ 40 ∧ -1 ≤ low ∧ high ≤ 128 ∧ low < high ∧ high - low ≤ 8
  · obtain ⟨h1, h2, h3, h4, h5⟩ := h
    obtain ⟨k, rfl⟩ := Int.eq_ofNat_of_zero_le (show 0 ≤ high by omega)
    exact coverAll_in W v l R (fun r hr => (ok r hr).1.1) a ha low k h1 h2 (by omega) h4 h5
  · obtain ⟨A, cap, rfl, n1, m1⟩ := R.form
    exact coverAll_out W A _ cap n1 m1 a low high (wf_i64 wl) (wf_i64 wh) h

end Go.Proofs.Ytcchjljdhjkmeaa
