/-
  The law DeltaFew: when a route comes, or goes, nothing turns but keys that it has. No condition.
-/
import Derived.Test.YtcchjljdhjkmeaaDeltaFewM
namespace Go.Proofs.Ytcchjljdhjkmeaa
open Go.RowKit
set_option linter.unusedVariables false
set_option linter.unusedSimpArgs false
set_option maxRecDepth 100000
attribute [local go_sem high] eq_ad eq_pf

theorem level_ok {l : List Rt} (hok : ∀ r ∈ l, r.1.1.ok) {p : Pf} (hp : p.1.ok) (hop low high : Int) : ∀ c ∈ levelD l p hop low high, c.1.1.ok := by
  intro c hc
  have hi := (merge_is (set_ord _ _ _) (set_ord _ _ _) c).1 hc
  cases e1 : lookR (setL l low high) c.1 with
  | some v => exact (raw_key hok ((look_set _ _ _ _ _).1 e1).1).2.1
  | none =>
    cases e2 : lookR (setL (withL l p hop) low high) c.1 with
    | some v => exact (raw_key (with_ok hok hp hop) ((look_set _ _ _ _ _).1 e2).1).2.1
    | none => exact absurd (e1.trans e2.symm) hi.1

theorem deltaFew_out (W : World) (A : Option Addr) (n cap : Nat) (hn : n ≤ cap) (hc : cap ≤ maxLen) (p : Pf) (hp : p.1.ok) (hop low high : Int) (h : ¬ (n ≤ 30 ∧ IntKind.i64.wrap (high - low) ≤ 8 ∧ -1 ≤ low ∧ high ≤ 128 ∧ low < high ∧ p.right)) :
    Calls Try.prog 9 #[.slice A n cap, .agg #[.int .u64 (p.1.1 : Int), .int .u64 (p.1.2 : Int), .int .i64 p.2], .int .i64 hop, .int .i64 low, .int .i64 high] W fun e W' => e = .returned (.bool true) ∧ Below W.heap.size W W' := by
  unfold maxLen at hc
  obtain ⟨D, hD⟩ : ∃ D, IntKind.i64.wrap (high - low) = D := ⟨_, rfl⟩
  rw [hD] at h
  have cR := hid (fun w (hr : ¬ p.right) => ref_right p.1 hp p.2 false (by rw [decide_eq_false hr]) w)
  obtain ⟨⟨px, py⟩, pn⟩ := p
  simp only at cR
  by_cases h1 : n ≤ 30
  · have d1 : ¬ (n : Int) > 30 := by omega
    by_cases h2 : D ≤ 8
    · have d2 : ¬ D > 8 := by omega
      by_cases h3 : -1 ≤ low
      · have d3 : ¬ low < -1 := by omega
        by_cases h4 : high ≤ 128
        · have d4 : ¬ high > 128 := by omega
          by_cases h5 : low < high
          · have d5 : ¬ high ≤ low := by omega
            have hr : ¬ (Pf.right ((px, py), pn)) := fun k => h ⟨h1, h2, h3, h4, h5, k⟩
            have cR2 := hid (fun w => cR.out w hr)
            clear h h1 h2 h3 h4 h5 hr cR
            go_enter Try.func9, Try.ntmps9
            go_wp2_with fail
            refine (delta_alive _).mono ?_
            rintro _ w1 ⟨rfl, hb⟩
            have BP := hid ((Blk.new W [.int .u64 (px : Int), .int .u64 (py : Int), .int .i64 pn] 37).below' hb)
            have HB := hid (((Below.refl W.heap.size W).alloc (Nat.le_refl _) (.cells #[.int .u64 (px : Int), .int .u64 (py : Int), .int .i64 pn] 37)).trans (hb.mono (by simp)))
            clear hb
            have q0 := BP.out.cellv (i := 0) rfl
            have q1 := BP.out.cellv (i := 1) rfl
            have q2 := BP.out.cellv (i := 2) rfl
            go_wp2_with fail
            refine (cR2.out _).mono ?_
            rintro _ w2 ⟨rfl, hb2⟩
            have HB2 := hid (held_next HB.out hb2)
            clear hb2 cR2 q0 q1 q2
            go_wp2_with fail
            go_ret
            exact ⟨rfl, HB2.out⟩
          · have d5 : high ≤ low := by omega
            clear h cR h1 h2 h3 h4 h5
            go_enter Try.func9, Try.ntmps9
            go_wp2_with fail
            refine (delta_alive _).mono ?_
            rintro _ w1 ⟨rfl, hb⟩
            have BP := hid ((Blk.new W [.int .u64 (px : Int), .int .u64 (py : Int), .int .i64 pn] 37).below' hb)
            have HB := hid (((Below.refl W.heap.size W).alloc (Nat.le_refl _) (.cells #[.int .u64 (px : Int), .int .u64 (py : Int), .int .i64 pn] 37)).trans (hb.mono (by simp)))
            clear hb
            go_wp2_with fail
            go_ret
            exact ⟨rfl, HB.out⟩
        · have d4 : high > 128 := by omega
          clear h cR h1 h2 h3 h4
          go_enter Try.func9, Try.ntmps9
          go_wp2_with fail
          refine (delta_alive _).mono ?_
          rintro _ w1 ⟨rfl, hb⟩
          have BP := hid ((Blk.new W [.int .u64 (px : Int), .int .u64 (py : Int), .int .i64 pn] 37).below' hb)
          have HB := hid (((Below.refl W.heap.size W).alloc (Nat.le_refl _) (.cells #[.int .u64 (px : Int), .int .u64 (py : Int), .int .i64 pn] 37)).trans (hb.mono (by simp)))
          clear hb
          go_wp2_with fail
          go_ret
          exact ⟨rfl, HB.out⟩
      · have d3 : low < -1 := by omega
        clear h cR h1 h2 h3
        go_enter Try.func9, Try.ntmps9
        go_wp2_with fail
        refine (delta_alive _).mono ?_
        rintro _ w1 ⟨rfl, hb⟩
        have BP := hid ((Blk.new W [.int .u64 (px : Int), .int .u64 (py : Int), .int .i64 pn] 37).below' hb)
        have HB := hid (((Below.refl W.heap.size W).alloc (Nat.le_refl _) (.cells #[.int .u64 (px : Int), .int .u64 (py : Int), .int .i64 pn] 37)).trans (hb.mono (by simp)))
        clear hb
        go_wp2_with fail
        go_ret
        exact ⟨rfl, HB.out⟩
    · have d2 : D > 8 := by omega
      clear h cR h1 h2
      go_enter Try.func9, Try.ntmps9
      go_wp2_with fail
      refine (delta_alive _).mono ?_
      rintro _ w1 ⟨rfl, hb⟩
      have BP := hid ((Blk.new W [.int .u64 (px : Int), .int .u64 (py : Int), .int .i64 pn] 37).below' hb)
      have HB := hid (((Below.refl W.heap.size W).alloc (Nat.le_refl _) (.cells #[.int .u64 (px : Int), .int .u64 (py : Int), .int .i64 pn] 37)).trans (hb.mono (by simp)))
      clear hb
      go_wp2_with fail
      go_ret
      exact ⟨rfl, HB.out⟩
  · have d1 : (n : Int) > 30 := by omega
    clear h cR h1
    go_enter Try.func9, Try.ntmps9
    go_wp2_with fail
    refine (delta_alive _).mono ?_
    rintro _ w1 ⟨rfl, hb⟩
    have BP := hid ((Blk.new W [.int .u64 (px : Int), .int .u64 (py : Int), .int .i64 pn] 37).below' hb)
    have HB := hid (((Below.refl W.heap.size W).alloc (Nat.le_refl _) (.cells #[.int .u64 (px : Int), .int .u64 (py : Int), .int .i64 pn] 37)).trans (hb.mono (by simp)))
    clear hb
    go_wp2_with fail
    go_ret
    exact ⟨rfl, HB.out⟩

def FwRel (w3 : World) (n : Nat) (i : Value) (wr : World) : Prop := ∃ j : Nat, j ≤ n ∧ i = .int .i64 j ∧ Below w3.heap.size w3 wr
set_option maxHeartbeats 4000000 in
theorem deltaFew_in (W : World) (v : Value) (l : List Rt) (R : Rd rtEn 4 W v l) (hok : ∀ r ∈ l, r.1.1.ok) (p : Pf) (hp : p.1.ok) (hop low high : Int) (h1 : l.length ≤ 30) (h2 : IntKind.i64.wrap (high - low) ≤ 8) (h3 : -1 ≤ low) (h4 : high ≤ 128) (h5 : low < high) (h6 : p.right) :
    Calls Try.prog 9 #[v, .agg #[.int .u64 (p.1.1 : Int), .int .u64 (p.1.2 : Int), .int .i64 p.2], .int .i64 hop, .int .i64 low, .int .i64 high] W fun e W' => e = .returned (.bool true) ∧ Below W.heap.size W W' := by
  have h8 : high - low ≤ 8 := by rw [IntKind.wrap_i64] at h2; omega
  obtain ⟨f1, f2⟩ := few hok hp h6 hop h8
  have F1 := hid f1
  have F3 := hid (level_ok hok hp hop low high)
  have cL := hid (fun (w' : World) (h : Below W.heap.size W w') => delta_level w' v l (R.below rtEn_length h) hok (by omega) p hp hop low high)
  have cS := hid (fun (w' : World) (h : Below W.heap.size W w') => cover_set w' v l (R.below rtEn_length h) hok (by omega) low high)
  have cR := hid (fun w => ref_right p.1 hp p.2 true (by rw [decide_eq_true h6]) w)
  have cH := hid (fun (w : World) (a : Ad) (ha : a.ok) (hh : p.has a) => ref_has p.1 a hp ha p.2 true (by rw [decide_eq_true hh]) w)
  generalize levelD l p hop low high = D at cL f1 f2 F1 F3
  generalize setL l low high = S at cS
  have HIN := hid (show D ≠ [] → low < p.2 ∧ p.2 ≤ high from fun hD => by
    obtain ⟨c, hc⟩ := List.exists_mem_of_ne_nil D hD
    exact (F1.out c hc).2.2)
  obtain ⟨A, cap, rfl, n1, m1⟩ := R.form
  unfold maxLen at m1
  obtain ⟨n, hn⟩ : ∃ n, l.length = n := ⟨_, rfl⟩
  rw [hn] at cL cS n1 h1 ⊢
  clear hn R hok f1 hp h6
  obtain ⟨⟨px, py⟩, pn⟩ := p
  simp only at cR cH HIN F1
  have d1 : ¬ (n : Int) > 30 := by omega
  have d2 : ¬ IntKind.i64.wrap (high - low) > 8 := by omega
  have d3 : ¬ low < -1 := by omega
  have d4 : ¬ high > 128 := by omega
  have d5 : ¬ high ≤ low := by omega
  go_enter Try.func9, Try.ntmps9
  go_wp2_with fail
  refine (delta_alive _).mono ?_
  rintro _ w1 ⟨rfl, hb⟩
  have BP := hid ((Blk.new W [.int .u64 (px : Int), .int .u64 (py : Int), .int .i64 pn] 37).below' hb)
  have HB := hid (((Below.refl W.heap.size W).alloc (Nat.le_refl _) (.cells #[.int .u64 (px : Int), .int .u64 (py : Int), .int .i64 pn] 37)).trans (hb.mono (by simp)))
  clear hb
  have q0 := BP.out.cellv (i := 0) rfl
  have q1 := BP.out.cellv (i := 1) rfl
  have q2 := BP.out.cellv (i := 2) rfl
  go_wp2_with fail
  refine (cR.out _).mono ?_
  rintro _ w2 ⟨rfl, hb2⟩
  have HB2 := hid (held_next HB.out hb2)
  have BP2 := hid (BP.out.below' hb2)
  have cL2 := hid (cL.out _ HB2.out)
  clear hb2 cR q0 q1 q2 BP HB cL
  have q0 := BP2.out.cellv (i := 0) rfl
  have q1 := BP2.out.cellv (i := 1) rfl
  have q2 := BP2.out.cellv (i := 2) rfl
  go_wp2_with fail
  refine cL2.out.mono ?_
  rintro _ w3 ⟨vc, rfl, hOc, hb3⟩
  have HB3 := hid (held_next HB2.out hb3)
  have BP3 := hid (BP2.out.below' hb3)
  have HRC := hid (Rd.of_owns (l := D) hOc chgEn_len)
  obtain ⟨Ac, cc, rfl, k1, k2⟩ := HRC.out.form
  unfold maxLen at k2
  obtain ⟨N, hN⟩ : ∃ N, D.length = N := ⟨_, rfl⟩
  have hRC := HRC.out
  rw [hN] at hRC k1 f2 ⊢
  have HRD := hid hRC
  have HN := hid hN
  have HB0 := hid (show W.heap.size < w3.heap.size from BP3.out.lt)
  clear hOc hb3 cL2 hN hRC HRC q0 q1 q2 BP2 HB2
  have q2 := BP3.out.cellv (i := 2) rfl
  have hN0 : (N : Int) ≤ 256 := by omega
  have hNP : 0 ≤ (N : Int) := by omega
  have hcond : (N = 0) ∨ (low < pn ∧ pn ≤ high) := by
    rcases Nat.eq_zero_or_pos N with h | h
    · exact .inl h
    · exact .inr (HIN.out (fun e => by rw [← HN.out, e] at h; simp at h))
  by_cases hin : low < pn ∧ pn ≤ high
  · have z1 : ¬ pn ≤ low := by omega
    have z2 : ¬ pn > high := by omega
    clear hcond hin
    go_wp2_with fail
    go_loopw [13] (fun i wr => FwRel w3 N i wr) (fun i _ => N - (intOf i).toNat)
    case atStart => exact ⟨0, Nat.zero_le _, rfl, Below.refl _ _⟩
    case round =>
      obtain ⟨j, hj, rfl, hB⟩ := hrel
      have HB := hid hB
      clear hB q2
      by_cases hjn : j < N
      · obtain ⟨c, hc⟩ : ∃ c, D[j]? = some c := ⟨_, List.getElem?_eq_getElem (by rw [HN.out]; exact hjn)⟩
        have hmem := List.mem_of_getElem? hc
        obtain ⟨g1, g2, _⟩ := F1.out c hmem
        have cHH := hid (fun w => cH.out w c.1.1 (F3.out c hmem) g2)
        obtain ⟨bx, ox, qx, hvx, _, _, lx, sx⟩ := HRD.out.get chgEn_len (by decide) hc
        injection hvx with a1 a2 a3
        subst a1 a3
        have HCX := hid (fun (w' : World) (h : Below w3.heap.size w3 w') => cell5 lx sx h)
        have HCP := hid (fun (w' : World) (h : Below w3.heap.size w3 w') => (show w'.cell? ⟨W.heap.size, 0, none⟩ = some (.int .u64 (px : Int)) ∧ w'.cell? ⟨W.heap.size, 1, none⟩ = some (.int .u64 (py : Int)) ∧ w'.cell? ⟨W.heap.size, 2, none⟩ = some (.int .i64 pn) from ⟨(BP3.out.below' h).cellv (i := 0) rfl, (BP3.out.below' h).cellv (i := 1) rfl, (BP3.out.below' h).cellv (i := 2) rfl⟩))
        have j0 : (0 : Int) ≤ (j : Int) := by omega
        have j1 : (j : Int) < (N : Int) := by omega
        have e3 : IntKind.i64.wrap ((j : Int) + 1) = (j : Int) + 1 := by rw [IntKind.wrap_i64]; omega
        have HJN := hid hjn
        obtain ⟨⟨⟨x1, x2⟩, x3⟩, x4, x5⟩ := c
        simp only at g1 cHH
        subst g1
        clear a2 sx lx hc hmem g2 hjn
        go_wp2_with fail
        have hS : (wr.drew.cell? ⟨bx, ox + j * 5, none⟩ = some (.int .u64 (x1 : Int)) ∧ wr.drew.cell? ⟨bx, ox + j * 5 + 1, none⟩ = some (.int .u64 (x2 : Int)) ∧ wr.drew.cell? ⟨bx, ox + j * 5 + 2, none⟩ = some (.int .i64 x3)) ∧ (wr.drew.cell? ⟨W.heap.size, 0, none⟩ = some (.int .u64 (px : Int)) ∧ wr.drew.cell? ⟨W.heap.size, 1, none⟩ = some (.int .u64 (py : Int)) ∧ wr.drew.cell? ⟨W.heap.size, 2, none⟩ = some (.int .i64 pn)) := ⟨⟨(HCX.out _ (HB.out.drew)).1, (HCX.out _ (HB.out.drew)).2.1, (HCX.out _ (HB.out.drew)).2.2.1⟩, HCP.out _ (HB.out.drew)⟩
        refine wp_region_ord (fun w' => (w'.cell? ⟨bx, ox + j * 5, none⟩ = some (.int .u64 (x1 : Int)) ∧ w'.cell? ⟨bx, ox + j * 5 + 1, none⟩ = some (.int .u64 (x2 : Int)) ∧ w'.cell? ⟨bx, ox + j * 5 + 2, none⟩ = some (.int .i64 x3)) ∧ (w'.cell? ⟨W.heap.size, 0, none⟩ = some (.int .u64 (px : Int)) ∧ w'.cell? ⟨W.heap.size, 1, none⟩ = some (.int .u64 (py : Int)) ∧ w'.cell? ⟨W.heap.size, 2, none⟩ = some (.int .i64 pn))) (by kernel_rfl) hS ?_
        refine ord_still 0 rfl (v := ?_) (by kernel_rfl) (fun _ _ _ h => h) rfl (fun W hW => ?_) hS ?_
        rotate_left
        · try dsimp only at hW
          go_simp
          try with_reducible rfl
        simp only [Act.put, List.setIfInBounds_toArray, List.set_cons_zero, List.set_cons_succ]
        refine ord_still 1 rfl (v := ?_) (by kernel_rfl) (fun _ _ _ h => h) rfl (fun W hW => ?_) hS ?_
        rotate_left
        · try dsimp only at hW
          go_simp
          try with_reducible rfl
        simp only [Act.put, List.setIfInBounds_toArray, List.set_cons_zero, List.set_cons_succ]
        refine ord_still 2 rfl (v := ?_) (by kernel_rfl) (fun _ _ _ h => h) rfl (fun W hW => ?_) hS ?_
        rotate_left
        · try dsimp only at hW
          go_simp
          try with_reducible rfl
        simp only [Act.put, List.setIfInBounds_toArray, List.set_cons_zero, List.set_cons_succ]
        refine ord_still 3 rfl (v := ?_) (by kernel_rfl) (fun _ _ _ h => h) rfl (fun W hW => ?_) hS ?_
        rotate_left
        · try dsimp only at hW
          go_simp
          try with_reducible rfl
        simp only [Act.put, List.setIfInBounds_toArray, List.set_cons_zero, List.set_cons_succ]
        refine ord_still 4 rfl (v := ?_) (by kernel_rfl) (fun _ _ _ h => h) rfl (fun W hW => ?_) hS ?_
        rotate_left
        · try dsimp only at hW
          go_simp
          try with_reducible rfl
        simp only [Act.put, List.setIfInBounds_toArray, List.set_cons_zero, List.set_cons_succ]
        refine ord_still 5 rfl (v := ?_) (by kernel_rfl) (fun _ _ _ h => h) rfl (fun W hW => ?_) hS ?_
        rotate_left
        · try dsimp only at hW
          go_simp
          try with_reducible rfl
        simp only [Act.put, List.setIfInBounds_toArray, List.set_cons_zero, List.set_cons_succ]
        refine ord_still 6 rfl (v := ?_) (by kernel_rfl) (fun _ _ _ h => h) rfl (fun W hW => ?_) hS ?_
        rotate_left
        · try dsimp only at hW
          go_simp
          try with_reducible rfl
        simp only [Act.put, List.setIfInBounds_toArray, List.set_cons_zero, List.set_cons_succ]
        refine ord_still 7 rfl (v := ?_) (by kernel_rfl) (fun _ _ _ h => h) rfl (fun W hW => ?_) hS ?_
        rotate_left
        · try dsimp only at hW
          go_simp
          try with_reducible rfl
        simp only [Act.put, List.setIfInBounds_toArray, List.set_cons_zero, List.set_cons_succ]
        refine ord_still 8 rfl (v := ?_) (by kernel_rfl) (fun _ _ _ h => h) rfl (fun W hW => ?_) hS ?_
        rotate_left
        · try dsimp only at hW
          go_simp
          try with_reducible rfl
        simp only [Act.put, List.setIfInBounds_toArray, List.set_cons_zero, List.set_cons_succ]
        refine ord_still 9 rfl (v := ?_) (by kernel_rfl) (fun _ _ _ h => h) rfl (fun W hW => ?_) hS ?_
        rotate_left
        · try dsimp only at hW
          go_simp
          try with_reducible rfl
        simp only [Act.put, List.setIfInBounds_toArray, List.set_cons_zero, List.set_cons_succ]
        refine ord_still 10 rfl (v := ?_) (by kernel_rfl) (fun _ _ _ h => h) rfl (fun W hW => ?_) hS ?_
        rotate_left
        · try dsimp only at hW
          go_simp
          try with_reducible rfl
        simp only [Act.put, List.setIfInBounds_toArray, List.set_cons_zero, List.set_cons_succ]
        refine ord_still 11 rfl (v := ?_) (by kernel_rfl) (fun _ _ _ h => h) rfl (fun W hW => ?_) hS ?_
        rotate_left
        · try dsimp only at hW
          go_simp
          try with_reducible rfl
        simp only [Act.put, List.setIfInBounds_toArray, List.set_cons_zero, List.set_cons_succ]
        refine ord_still 12 rfl (v := ?_) (by kernel_rfl) (fun _ _ _ h => h) rfl (fun W hW => ?_) hS ?_
        rotate_left
        · try dsimp only at hW
          go_simp
          try with_reducible rfl
        simp only [Act.put, List.setIfInBounds_toArray, List.set_cons_zero, List.set_cons_succ]
        refine ord_still 13 rfl (v := ?_) (by kernel_rfl) (fun _ _ _ h => h) rfl (fun W hW => ?_) hS ?_
        rotate_left
        · try dsimp only at hW
          go_simp
          try with_reducible rfl
        simp only [Act.put, List.setIfInBounds_toArray, List.set_cons_zero, List.set_cons_succ]
        refine ord_still 14 rfl (v := ?_) (by kernel_rfl) (fun _ _ _ h => h) rfl (fun W hW => ?_) hS ?_
        rotate_left
        · try dsimp only at hW
          go_simp
          try with_reducible rfl
        simp only [Act.put, List.setIfInBounds_toArray, List.set_cons_zero, List.set_cons_succ]
        refine ord_still 15 rfl (v := ?_) (by kernel_rfl) (fun _ _ _ h => h) rfl (fun W hW => ?_) hS ?_
        rotate_left
        · try dsimp only at hW
          go_simp
          try with_reducible rfl
        simp only [Act.put, List.setIfInBounds_toArray, List.set_cons_zero, List.set_cons_succ]
        refine ord_alone 16 rfl (by kernel_rfl) rfl (fun K hK => ?_)
        go_simp
        refine (cHH.out _).mono ?_
        rintro _ w6 ⟨rfl, hb⟩
        have HB6 := hid (held_next HB.out.drew hb)
        clear hb
        clear hS
        have hS : (w6.cell? ⟨bx, ox + j * 5, none⟩ = some (.int .u64 (x1 : Int)) ∧ w6.cell? ⟨bx, ox + j * 5 + 1, none⟩ = some (.int .u64 (x2 : Int)) ∧ w6.cell? ⟨bx, ox + j * 5 + 2, none⟩ = some (.int .i64 x3)) ∧ (w6.cell? ⟨W.heap.size, 0, none⟩ = some (.int .u64 (px : Int)) ∧ w6.cell? ⟨W.heap.size, 1, none⟩ = some (.int .u64 (py : Int)) ∧ w6.cell? ⟨W.heap.size, 2, none⟩ = some (.int .i64 pn)) := ⟨⟨(HCX.out _ (HB6.out)).1, (HCX.out _ (HB6.out)).2.1, (HCX.out _ (HB6.out)).2.2.1⟩, HCP.out _ (HB6.out)⟩
        refine hK.out _ _ hS ?_
        clear hK
        refine ord_still 17 rfl (v := ?_) (by kernel_rfl) (fun _ _ _ h => h) rfl (fun W hW => ?_) hS ?_
        rotate_left
        · try dsimp only at hW
          go_simp
          try with_reducible rfl
        simp only [Act.put, List.setIfInBounds_toArray, List.set_cons_zero, List.set_cons_succ]
        refine ord_still 18 rfl (v := ?_) (by kernel_rfl) (fun _ _ _ h => h) rfl (fun W hW => ?_) hS ?_
        rotate_left
        · try dsimp only at hW
          go_simp
          try with_reducible rfl
        simp only [Act.put, List.setIfInBounds_toArray, List.set_cons_zero, List.set_cons_succ]
        refine ord_done (by kernel_rfl) ?_
        clear hS
        go_wp2_with fail
        go_roundw
        case rel => exact ⟨j + 1, by have := HJN.out; omega, by go_num, HB6.out⟩
        case measure => have := HJN.out; simp [intOf]; omega
      · have c3 : ¬ (j : Int) < (N : Int) := by omega
        have HBW := hid (HB3.out.trans (HB.out.mono HB3.out.size))
        have cS4 := hid (cS.out _ HBW.out)
        clear cS
        go_wp2_with fail
        refine cS4.out.mono ?_
        rintro _ w7 ⟨v7, rfl, hO7, hb7⟩
        have HB7 := hid (held_next HBW.out hb7)
        obtain ⟨A7, c7, rfl⟩ := hO7.form
        have hs0 : (0 : Int) ≤ (S.length : Int) := by omega
        clear hO7 hb7 cS4
        go_wp2_with fail
        go_ret
        exact ⟨rfl, HB7.out⟩
  · have hN00 : N = 0 := hcond.resolve_right hin
    have z3 : ¬ (N : Int) > 0 := by omega
    have z4 : ¬ 0 < N := by omega
    have z5 : decide (0 < N) = false := decide_eq_false z4
    by_cases z1 : pn ≤ low
    · clear hcond hin hN00
      go_wp2_with fail
      go_loopw [13] (fun i wr => FwRel w3 N i wr) (fun i _ => N - (intOf i).toNat)
      case atStart => exact ⟨0, Nat.zero_le _, rfl, Below.refl _ _⟩
      case round =>
        obtain ⟨j, hj, rfl, hB⟩ := hrel
        have HB := hid hB
        clear hB q2
        by_cases hjn : j < N
        · obtain ⟨c, hc⟩ : ∃ c, D[j]? = some c := ⟨_, List.getElem?_eq_getElem (by rw [HN.out]; exact hjn)⟩
          have hmem := List.mem_of_getElem? hc
          obtain ⟨g1, g2, _⟩ := F1.out c hmem
          have cHH := hid (fun w => cH.out w c.1.1 (F3.out c hmem) g2)
          obtain ⟨bx, ox, qx, hvx, _, _, lx, sx⟩ := HRD.out.get chgEn_len (by decide) hc
          injection hvx with a1 a2 a3
          subst a1 a3
          have HCX := hid (fun (w' : World) (h : Below w3.heap.size w3 w') => cell5 lx sx h)
          have HCP := hid (fun (w' : World) (h : Below w3.heap.size w3 w') => (show w'.cell? ⟨W.heap.size, 0, none⟩ = some (.int .u64 (px : Int)) ∧ w'.cell? ⟨W.heap.size, 1, none⟩ = some (.int .u64 (py : Int)) ∧ w'.cell? ⟨W.heap.size, 2, none⟩ = some (.int .i64 pn) from ⟨(BP3.out.below' h).cellv (i := 0) rfl, (BP3.out.below' h).cellv (i := 1) rfl, (BP3.out.below' h).cellv (i := 2) rfl⟩))
          have j0 : (0 : Int) ≤ (j : Int) := by omega
          have j1 : (j : Int) < (N : Int) := by omega
          have e3 : IntKind.i64.wrap ((j : Int) + 1) = (j : Int) + 1 := by rw [IntKind.wrap_i64]; omega
          have HJN := hid hjn
          obtain ⟨⟨⟨x1, x2⟩, x3⟩, x4, x5⟩ := c
          simp only at g1 cHH
          subst g1
          clear a2 sx lx hc hmem g2 hjn
          go_wp2_with fail
          have hS : (wr.drew.cell? ⟨bx, ox + j * 5, none⟩ = some (.int .u64 (x1 : Int)) ∧ wr.drew.cell? ⟨bx, ox + j * 5 + 1, none⟩ = some (.int .u64 (x2 : Int)) ∧ wr.drew.cell? ⟨bx, ox + j * 5 + 2, none⟩ = some (.int .i64 x3)) ∧ (wr.drew.cell? ⟨W.heap.size, 0, none⟩ = some (.int .u64 (px : Int)) ∧ wr.drew.cell? ⟨W.heap.size, 1, none⟩ = some (.int .u64 (py : Int)) ∧ wr.drew.cell? ⟨W.heap.size, 2, none⟩ = some (.int .i64 pn)) := ⟨⟨(HCX.out _ (HB.out.drew)).1, (HCX.out _ (HB.out.drew)).2.1, (HCX.out _ (HB.out.drew)).2.2.1⟩, HCP.out _ (HB.out.drew)⟩
          refine wp_region_ord (fun w' => (w'.cell? ⟨bx, ox + j * 5, none⟩ = some (.int .u64 (x1 : Int)) ∧ w'.cell? ⟨bx, ox + j * 5 + 1, none⟩ = some (.int .u64 (x2 : Int)) ∧ w'.cell? ⟨bx, ox + j * 5 + 2, none⟩ = some (.int .i64 x3)) ∧ (w'.cell? ⟨W.heap.size, 0, none⟩ = some (.int .u64 (px : Int)) ∧ w'.cell? ⟨W.heap.size, 1, none⟩ = some (.int .u64 (py : Int)) ∧ w'.cell? ⟨W.heap.size, 2, none⟩ = some (.int .i64 pn))) (by kernel_rfl) hS ?_
          refine ord_still 0 rfl (v := ?_) (by kernel_rfl) (fun _ _ _ h => h) rfl (fun W hW => ?_) hS ?_
          rotate_left
          · try dsimp only at hW
            go_simp
            try with_reducible rfl
          simp only [Act.put, List.setIfInBounds_toArray, List.set_cons_zero, List.set_cons_succ]
          refine ord_still 1 rfl (v := ?_) (by kernel_rfl) (fun _ _ _ h => h) rfl (fun W hW => ?_) hS ?_
          rotate_left
          · try dsimp only at hW
            go_simp
            try with_reducible rfl
          simp only [Act.put, List.setIfInBounds_toArray, List.set_cons_zero, List.set_cons_succ]
          refine ord_still 2 rfl (v := ?_) (by kernel_rfl) (fun _ _ _ h => h) rfl (fun W hW => ?_) hS ?_
          rotate_left
          · try dsimp only at hW
            go_simp
            try with_reducible rfl
          simp only [Act.put, List.setIfInBounds_toArray, List.set_cons_zero, List.set_cons_succ]
          refine ord_still 3 rfl (v := ?_) (by kernel_rfl) (fun _ _ _ h => h) rfl (fun W hW => ?_) hS ?_
          rotate_left
          · try dsimp only at hW
            go_simp
            try with_reducible rfl
          simp only [Act.put, List.setIfInBounds_toArray, List.set_cons_zero, List.set_cons_succ]
          refine ord_still 4 rfl (v := ?_) (by kernel_rfl) (fun _ _ _ h => h) rfl (fun W hW => ?_) hS ?_
          rotate_left
          · try dsimp only at hW
            go_simp
            try with_reducible rfl
          simp only [Act.put, List.setIfInBounds_toArray, List.set_cons_zero, List.set_cons_succ]
          refine ord_still 5 rfl (v := ?_) (by kernel_rfl) (fun _ _ _ h => h) rfl (fun W hW => ?_) hS ?_
          rotate_left
          · try dsimp only at hW
            go_simp
            try with_reducible rfl
          simp only [Act.put, List.setIfInBounds_toArray, List.set_cons_zero, List.set_cons_succ]
          refine ord_still 6 rfl (v := ?_) (by kernel_rfl) (fun _ _ _ h => h) rfl (fun W hW => ?_) hS ?_
          rotate_left
          · try dsimp only at hW
            go_simp
            try with_reducible rfl
          simp only [Act.put, List.setIfInBounds_toArray, List.set_cons_zero, List.set_cons_succ]
          refine ord_still 7 rfl (v := ?_) (by kernel_rfl) (fun _ _ _ h => h) rfl (fun W hW => ?_) hS ?_
          rotate_left
          · try dsimp only at hW
            go_simp
            try with_reducible rfl
          simp only [Act.put, List.setIfInBounds_toArray, List.set_cons_zero, List.set_cons_succ]
          refine ord_still 8 rfl (v := ?_) (by kernel_rfl) (fun _ _ _ h => h) rfl (fun W hW => ?_) hS ?_
          rotate_left
          · try dsimp only at hW
            go_simp
            try with_reducible rfl
          simp only [Act.put, List.setIfInBounds_toArray, List.set_cons_zero, List.set_cons_succ]
          refine ord_still 9 rfl (v := ?_) (by kernel_rfl) (fun _ _ _ h => h) rfl (fun W hW => ?_) hS ?_
          rotate_left
          · try dsimp only at hW
            go_simp
            try with_reducible rfl
          simp only [Act.put, List.setIfInBounds_toArray, List.set_cons_zero, List.set_cons_succ]
          refine ord_still 10 rfl (v := ?_) (by kernel_rfl) (fun _ _ _ h => h) rfl (fun W hW => ?_) hS ?_
          rotate_left
          · try dsimp only at hW
            go_simp
            try with_reducible rfl
          simp only [Act.put, List.setIfInBounds_toArray, List.set_cons_zero, List.set_cons_succ]
          refine ord_still 11 rfl (v := ?_) (by kernel_rfl) (fun _ _ _ h => h) rfl (fun W hW => ?_) hS ?_
          rotate_left
          · try dsimp only at hW
            go_simp
            try with_reducible rfl
          simp only [Act.put, List.setIfInBounds_toArray, List.set_cons_zero, List.set_cons_succ]
          refine ord_still 12 rfl (v := ?_) (by kernel_rfl) (fun _ _ _ h => h) rfl (fun W hW => ?_) hS ?_
          rotate_left
          · try dsimp only at hW
            go_simp
            try with_reducible rfl
          simp only [Act.put, List.setIfInBounds_toArray, List.set_cons_zero, List.set_cons_succ]
          refine ord_still 13 rfl (v := ?_) (by kernel_rfl) (fun _ _ _ h => h) rfl (fun W hW => ?_) hS ?_
          rotate_left
          · try dsimp only at hW
            go_simp
            try with_reducible rfl
          simp only [Act.put, List.setIfInBounds_toArray, List.set_cons_zero, List.set_cons_succ]
          refine ord_still 14 rfl (v := ?_) (by kernel_rfl) (fun _ _ _ h => h) rfl (fun W hW => ?_) hS ?_
          rotate_left
          · try dsimp only at hW
            go_simp
            try with_reducible rfl
          simp only [Act.put, List.setIfInBounds_toArray, List.set_cons_zero, List.set_cons_succ]
          refine ord_still 15 rfl (v := ?_) (by kernel_rfl) (fun _ _ _ h => h) rfl (fun W hW => ?_) hS ?_
          rotate_left
          · try dsimp only at hW
            go_simp
            try with_reducible rfl
          simp only [Act.put, List.setIfInBounds_toArray, List.set_cons_zero, List.set_cons_succ]
          refine ord_alone 16 rfl (by kernel_rfl) rfl (fun K hK => ?_)
          go_simp
          refine (cHH.out _).mono ?_
          rintro _ w6 ⟨rfl, hb⟩
          have HB6 := hid (held_next HB.out.drew hb)
          clear hb
          clear hS
          have hS : (w6.cell? ⟨bx, ox + j * 5, none⟩ = some (.int .u64 (x1 : Int)) ∧ w6.cell? ⟨bx, ox + j * 5 + 1, none⟩ = some (.int .u64 (x2 : Int)) ∧ w6.cell? ⟨bx, ox + j * 5 + 2, none⟩ = some (.int .i64 x3)) ∧ (w6.cell? ⟨W.heap.size, 0, none⟩ = some (.int .u64 (px : Int)) ∧ w6.cell? ⟨W.heap.size, 1, none⟩ = some (.int .u64 (py : Int)) ∧ w6.cell? ⟨W.heap.size, 2, none⟩ = some (.int .i64 pn)) := ⟨⟨(HCX.out _ (HB6.out)).1, (HCX.out _ (HB6.out)).2.1, (HCX.out _ (HB6.out)).2.2.1⟩, HCP.out _ (HB6.out)⟩
          refine hK.out _ _ hS ?_
          clear hK
          refine ord_still 17 rfl (v := ?_) (by kernel_rfl) (fun _ _ _ h => h) rfl (fun W hW => ?_) hS ?_
          rotate_left
          · try dsimp only at hW
            go_simp
            try with_reducible rfl
          simp only [Act.put, List.setIfInBounds_toArray, List.set_cons_zero, List.set_cons_succ]
          refine ord_still 18 rfl (v := ?_) (by kernel_rfl) (fun _ _ _ h => h) rfl (fun W hW => ?_) hS ?_
          rotate_left
          · try dsimp only at hW
            go_simp
            try with_reducible rfl
          simp only [Act.put, List.setIfInBounds_toArray, List.set_cons_zero, List.set_cons_succ]
          refine ord_done (by kernel_rfl) ?_
          clear hS
          go_wp2_with fail
          go_roundw
          case rel => exact ⟨j + 1, by have := HJN.out; omega, by go_num, HB6.out⟩
          case measure => have := HJN.out; simp [intOf]; omega
        · have c3 : ¬ (j : Int) < (N : Int) := by omega
          have HBW := hid (HB3.out.trans (HB.out.mono HB3.out.size))
          have cS4 := hid (cS.out _ HBW.out)
          clear cS
          go_wp2_with fail
          refine cS4.out.mono ?_
          rintro _ w7 ⟨v7, rfl, hO7, hb7⟩
          have HB7 := hid (held_next HBW.out hb7)
          obtain ⟨A7, c7, rfl⟩ := hO7.form
          have hs0 : (0 : Int) ≤ (S.length : Int) := by omega
          clear hO7 hb7 cS4
          go_wp2_with fail
          go_ret
          exact ⟨rfl, HB7.out⟩
    · have z2 : pn > high := by omega
      clear hcond hin hN00
      go_wp2_with fail
      go_loopw [13] (fun i wr => FwRel w3 N i wr) (fun i _ => N - (intOf i).toNat)
      case atStart => exact ⟨0, Nat.zero_le _, rfl, Below.refl _ _⟩
      case round =>
        obtain ⟨j, hj, rfl, hB⟩ := hrel
        have HB := hid hB
        clear hB q2
        by_cases hjn : j < N
        · obtain ⟨c, hc⟩ : ∃ c, D[j]? = some c := ⟨_, List.getElem?_eq_getElem (by rw [HN.out]; exact hjn)⟩
          have hmem := List.mem_of_getElem? hc
          obtain ⟨g1, g2, _⟩ := F1.out c hmem
          have cHH := hid (fun w => cH.out w c.1.1 (F3.out c hmem) g2)
          obtain ⟨bx, ox, qx, hvx, _, _, lx, sx⟩ := HRD.out.get chgEn_len (by decide) hc
          injection hvx with a1 a2 a3
          subst a1 a3
          have HCX := hid (fun (w' : World) (h : Below w3.heap.size w3 w') => cell5 lx sx h)
          have HCP := hid (fun (w' : World) (h : Below w3.heap.size w3 w') => (show w'.cell? ⟨W.heap.size, 0, none⟩ = some (.int .u64 (px : Int)) ∧ w'.cell? ⟨W.heap.size, 1, none⟩ = some (.int .u64 (py : Int)) ∧ w'.cell? ⟨W.heap.size, 2, none⟩ = some (.int .i64 pn) from ⟨(BP3.out.below' h).cellv (i := 0) rfl, (BP3.out.below' h).cellv (i := 1) rfl, (BP3.out.below' h).cellv (i := 2) rfl⟩))
          have j0 : (0 : Int) ≤ (j : Int) := by omega
          have j1 : (j : Int) < (N : Int) := by omega
          have e3 : IntKind.i64.wrap ((j : Int) + 1) = (j : Int) + 1 := by rw [IntKind.wrap_i64]; omega
          have HJN := hid hjn
          obtain ⟨⟨⟨x1, x2⟩, x3⟩, x4, x5⟩ := c
          simp only at g1 cHH
          subst g1
          clear a2 sx lx hc hmem g2 hjn
          go_wp2_with fail
          have hS : (wr.drew.cell? ⟨bx, ox + j * 5, none⟩ = some (.int .u64 (x1 : Int)) ∧ wr.drew.cell? ⟨bx, ox + j * 5 + 1, none⟩ = some (.int .u64 (x2 : Int)) ∧ wr.drew.cell? ⟨bx, ox + j * 5 + 2, none⟩ = some (.int .i64 x3)) ∧ (wr.drew.cell? ⟨W.heap.size, 0, none⟩ = some (.int .u64 (px : Int)) ∧ wr.drew.cell? ⟨W.heap.size, 1, none⟩ = some (.int .u64 (py : Int)) ∧ wr.drew.cell? ⟨W.heap.size, 2, none⟩ = some (.int .i64 pn)) := ⟨⟨(HCX.out _ (HB.out.drew)).1, (HCX.out _ (HB.out.drew)).2.1, (HCX.out _ (HB.out.drew)).2.2.1⟩, HCP.out _ (HB.out.drew)⟩
          refine wp_region_ord (fun w' => (w'.cell? ⟨bx, ox + j * 5, none⟩ = some (.int .u64 (x1 : Int)) ∧ w'.cell? ⟨bx, ox + j * 5 + 1, none⟩ = some (.int .u64 (x2 : Int)) ∧ w'.cell? ⟨bx, ox + j * 5 + 2, none⟩ = some (.int .i64 x3)) ∧ (w'.cell? ⟨W.heap.size, 0, none⟩ = some (.int .u64 (px : Int)) ∧ w'.cell? ⟨W.heap.size, 1, none⟩ = some (.int .u64 (py : Int)) ∧ w'.cell? ⟨W.heap.size, 2, none⟩ = some (.int .i64 pn))) (by kernel_rfl) hS ?_
          refine ord_still 0 rfl (v := ?_) (by kernel_rfl) (fun _ _ _ h => h) rfl (fun W hW => ?_) hS ?_
          rotate_left
          · try dsimp only at hW
            go_simp
            try with_reducible rfl
          simp only [Act.put, List.setIfInBounds_toArray, List.set_cons_zero, List.set_cons_succ]
          refine ord_still 1 rfl (v := ?_) (by kernel_rfl) (fun _ _ _ h => h) rfl (fun W hW => ?_) hS ?_
          rotate_left
          · try dsimp only at hW
            go_simp
            try with_reducible rfl
          simp only [Act.put, List.setIfInBounds_toArray, List.set_cons_zero, List.set_cons_succ]
          refine ord_still 2 rfl (v := ?_) (by kernel_rfl) (fun _ _ _ h => h) rfl (fun W hW => ?_) hS ?_
          rotate_left
          · try dsimp only at hW
            go_simp
            try with_reducible rfl
          simp only [Act.put, List.setIfInBounds_toArray, List.set_cons_zero, List.set_cons_succ]
          refine ord_still 3 rfl (v := ?_) (by kernel_rfl) (fun _ _ _ h => h) rfl (fun W hW => ?_) hS ?_
          rotate_left
          · try dsimp only at hW
            go_simp
            try with_reducible rfl
          simp only [Act.put, List.setIfInBounds_toArray, List.set_cons_zero, List.set_cons_succ]
          refine ord_still 4 rfl (v := ?_) (by kernel_rfl) (fun _ _ _ h => h) rfl (fun W hW => ?_) hS ?_
          rotate_left
          · try dsimp only at hW
            go_simp
            try with_reducible rfl
          simp only [Act.put, List.setIfInBounds_toArray, List.set_cons_zero, List.set_cons_succ]
          refine ord_still 5 rfl (v := ?_) (by kernel_rfl) (fun _ _ _ h => h) rfl (fun W hW => ?_) hS ?_
          rotate_left
          · try dsimp only at hW
            go_simp
            try with_reducible rfl
          simp only [Act.put, List.setIfInBounds_toArray, List.set_cons_zero, List.set_cons_succ]
          refine ord_still 6 rfl (v := ?_) (by kernel_rfl) (fun _ _ _ h => h) rfl (fun W hW => ?_) hS ?_
          rotate_left
          · try dsimp only at hW
            go_simp
            try with_reducible rfl
          simp only [Act.put, List.setIfInBounds_toArray, List.set_cons_zero, List.set_cons_succ]
          refine ord_still 7 rfl (v := ?_) (by kernel_rfl) (fun _ _ _ h => h) rfl (fun W hW => ?_) hS ?_
          rotate_left
          · try dsimp only at hW
            go_simp
            try with_reducible rfl
          simp only [Act.put, List.setIfInBounds_toArray, List.set_cons_zero, List.set_cons_succ]
          refine ord_still 8 rfl (v := ?_) (by kernel_rfl) (fun _ _ _ h => h) rfl (fun W hW => ?_) hS ?_
          rotate_left
          · try dsimp only at hW
            go_simp
            try with_reducible rfl
          simp only [Act.put, List.setIfInBounds_toArray, List.set_cons_zero, List.set_cons_succ]
          refine ord_still 9 rfl (v := ?_) (by kernel_rfl) (fun _ _ _ h => h) rfl (fun W hW => ?_) hS ?_
          rotate_left
          · try dsimp only at hW
            go_simp
            try with_reducible rfl
          simp only [Act.put, List.setIfInBounds_toArray, List.set_cons_zero, List.set_cons_succ]
          refine ord_still 10 rfl (v := ?_) (by kernel_rfl) (fun _ _ _ h => h) rfl (fun W hW => ?_) hS ?_
          rotate_left
          · try dsimp only at hW
            go_simp
            try with_reducible rfl
          simp only [Act.put, List.setIfInBounds_toArray, List.set_cons_zero, List.set_cons_succ]
          refine ord_still 11 rfl (v := ?_) (by kernel_rfl) (fun _ _ _ h => h) rfl (fun W hW => ?_) hS ?_
          rotate_left
          · try dsimp only at hW
            go_simp
            try with_reducible rfl
          simp only [Act.put, List.setIfInBounds_toArray, List.set_cons_zero, List.set_cons_succ]
          refine ord_still 12 rfl (v := ?_) (by kernel_rfl) (fun _ _ _ h => h) rfl (fun W hW => ?_) hS ?_
          rotate_left
          · try dsimp only at hW
            go_simp
            try with_reducible rfl
          simp only [Act.put, List.setIfInBounds_toArray, List.set_cons_zero, List.set_cons_succ]
          refine ord_still 13 rfl (v := ?_) (by kernel_rfl) (fun _ _ _ h => h) rfl (fun W hW => ?_) hS ?_
          rotate_left
          · try dsimp only at hW
            go_simp
            try with_reducible rfl
          simp only [Act.put, List.setIfInBounds_toArray, List.set_cons_zero, List.set_cons_succ]
          refine ord_still 14 rfl (v := ?_) (by kernel_rfl) (fun _ _ _ h => h) rfl (fun W hW => ?_) hS ?_
          rotate_left
          · try dsimp only at hW
            go_simp
            try with_reducible rfl
          simp only [Act.put, List.setIfInBounds_toArray, List.set_cons_zero, List.set_cons_succ]
          refine ord_still 15 rfl (v := ?_) (by kernel_rfl) (fun _ _ _ h => h) rfl (fun W hW => ?_) hS ?_
          rotate_left
          · try dsimp only at hW
            go_simp
            try with_reducible rfl
          simp only [Act.put, List.setIfInBounds_toArray, List.set_cons_zero, List.set_cons_succ]
          refine ord_alone 16 rfl (by kernel_rfl) rfl (fun K hK => ?_)
          go_simp
          refine (cHH.out _).mono ?_
          rintro _ w6 ⟨rfl, hb⟩
          have HB6 := hid (held_next HB.out.drew hb)
          clear hb
          clear hS
          have hS : (w6.cell? ⟨bx, ox + j * 5, none⟩ = some (.int .u64 (x1 : Int)) ∧ w6.cell? ⟨bx, ox + j * 5 + 1, none⟩ = some (.int .u64 (x2 : Int)) ∧ w6.cell? ⟨bx, ox + j * 5 + 2, none⟩ = some (.int .i64 x3)) ∧ (w6.cell? ⟨W.heap.size, 0, none⟩ = some (.int .u64 (px : Int)) ∧ w6.cell? ⟨W.heap.size, 1, none⟩ = some (.int .u64 (py : Int)) ∧ w6.cell? ⟨W.heap.size, 2, none⟩ = some (.int .i64 pn)) := ⟨⟨(HCX.out _ (HB6.out)).1, (HCX.out _ (HB6.out)).2.1, (HCX.out _ (HB6.out)).2.2.1⟩, HCP.out _ (HB6.out)⟩
          refine hK.out _ _ hS ?_
          clear hK
          refine ord_still 17 rfl (v := ?_) (by kernel_rfl) (fun _ _ _ h => h) rfl (fun W hW => ?_) hS ?_
          rotate_left
          · try dsimp only at hW
            go_simp
            try with_reducible rfl
          simp only [Act.put, List.setIfInBounds_toArray, List.set_cons_zero, List.set_cons_succ]
          refine ord_still 18 rfl (v := ?_) (by kernel_rfl) (fun _ _ _ h => h) rfl (fun W hW => ?_) hS ?_
          rotate_left
          · try dsimp only at hW
            go_simp
            try with_reducible rfl
          simp only [Act.put, List.setIfInBounds_toArray, List.set_cons_zero, List.set_cons_succ]
          refine ord_done (by kernel_rfl) ?_
          clear hS
          go_wp2_with fail
          go_roundw
          case rel => exact ⟨j + 1, by have := HJN.out; omega, by go_num, HB6.out⟩
          case measure => have := HJN.out; simp [intOf]; omega
        · have c3 : ¬ (j : Int) < (N : Int) := by omega
          have HBW := hid (HB3.out.trans (HB.out.mono HB3.out.size))
          have cS4 := hid (cS.out _ HBW.out)
          clear cS
          go_wp2_with fail
          refine cS4.out.mono ?_
          rintro _ w7 ⟨v7, rfl, hO7, hb7⟩
          have HB7 := hid (held_next HBW.out hb7)
          obtain ⟨A7, c7, rfl⟩ := hO7.form
          have hs0 : (0 : Int) ≤ (S.length : Int) := by omega
          clear hO7 hb7 cS4
          go_wp2_with fail
          go_ret
          exact ⟨rfl, HB7.out⟩

theorem deltaFew_walk (W : World) (v : Value) (l : List Rt) (R : Rd rtEn 4 W v l) (ok : ∀ x ∈ l, Rt.fit x) (p : Pf) (hp : p.fit) (hop : Int) (wo : (Lit.int .i64 hop).wf = true) (low : Int) (wl : (Lit.int .i64 low).wf = true) (high : Int) (wh : (Lit.int .i64 high).wf = true) :
    Calls Try.prog 9 #[v, .agg #[.int .u64 (p.1.1 : Int), .int .u64 (p.1.2 : Int), .int .i64 p.2], .int .i64 hop, .int .i64 low, .int .i64 high] W fun e W' => e = .returned (.bool true) ∧ Below W.heap.size W W' := by
  by_cases h : l.length ≤ 30 ∧ IntKind.i64.wrap (high - low) ≤ 8 ∧ -1 ≤ low ∧ high ≤ 128 ∧ low < high ∧ p.right
  · exact deltaFew_in W v l R (fun r hr => (ok r hr).1.1) p hp.1 hop low high h.1 h.2.1 h.2.2.1 h.2.2.2.1 h.2.2.2.2.1 h.2.2.2.2.2
  · obtain ⟨A, cap, rfl, n1, m1⟩ := R.form
    exact deltaFew_out W A _ cap n1 m1 p hp.1 hop low high h

end Go.Proofs.Ytcchjljdhjkmeaa
