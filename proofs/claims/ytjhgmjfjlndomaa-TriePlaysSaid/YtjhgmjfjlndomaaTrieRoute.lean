/-
  The contract of route in law 14: of a trie and of the list that says the same it tells true. No condition but that words are words.
-/
import Derived.Test.YtjhgmjfjlndomaaTrieList
namespace Go.Proofs.Ytjhgmjfjlndomaa
open Go.RowKit
set_option linter.unusedVariables false
set_option linter.unusedSimpArgs false
set_option maxRecDepth 100000
attribute [local go_sem high] eq_ad eq_pf eq_rt

set_option maxHeartbeats 8000000 in
theorem trie_route {w : World} {g : Nat} {F : Nat → Prop} {N : Ad → Nat → Option Nat} {now : List Rt} {n : Int} (H : TrieN w g F N (mapOf now) n) (hS : Srt now) (v : Value) (hR : Rd rtEn 4 w v now) (a : Ad) (ha : a.ok) (p : Pf) (hp : p.1.ok) (low high : Int) :
    Calls Try.prog 36 #[.pointer (some ⟨g, 0, none⟩), v, .agg #[.int .u64 (a.1 : Int), .int .u64 (a.2 : Int)], .agg #[.int .u64 (p.1.1 : Int), .int .u64 (p.1.2 : Int), .int .i64 p.2], .int .i64 low, .int .i64 high] w fun e w' => e = .returned (.bool true) ∧ Below w.heap.size w w' := by
  have hgr := guard_rt
  have HN : ∀ r ∈ now, r.1.1.ok := fun r hr => (hS.ok r hr).1
  have lp := hid (long_parts hS ha (-1) 128)
  have kp := hid fun (mo : Int) => long_parts hS hp low mo
  have HGET := hid fun k x (h : now[k]? = some x) => hR.get rtEn_length (by decide) h
  have hcut : ∃ (v1 : Option (Nat × Int)) (r1 : Rt) (f1 : Bool), bestT (mapOf now) a (-1) 129 = v1 ∧ btR a v1 = r1 ∧ v1.isSome = f1 := ⟨_, _, _, rfl, rfl, rfl⟩
  obtain ⟨v1, r1, f1, e1, g1, h1⟩ := hcut
  have c1 := hid fun (w1 : World) (hb : Below w.heap.size w w1) => trie_longest' (H.below hb) a ha v1 e1 r1 f1 g1 h1
  have c2 := hid fun (w1 : World) (hb : Below w.heap.size w w1) => ref_longest w1 v now (hR.below rtEn_length hb) HN a ha (-1) 128
  have c4 := hid fun (w1 : World) (hb : Below w.heap.size w w1) lo hi => ref_longest w1 v now (hR.below rtEn_length hb) HN p.1 hp lo hi
  have hcut : ∃ (v2 : Option (Nat × Int)) (r2 : Rt) (f2 : Bool), coverT (mapOf now) p low high = v2 ∧ btR p.1 v2 = r2 ∧ v2.isSome = f2 := ⟨_, _, _, rfl, rfl, rfl⟩
  obtain ⟨v2, r2, f2, e2, g2, h2⟩ := hcut
  have c3 := hid fun (w1 : World) (hb : Below w.heap.size w w1) => trie_cover' (H.below hb) p hp low high v2 e2 r2 f2 g2 h2
  obtain ⟨b, hb⟩ : ∃ b : Bool, b = decide p.right := ⟨_, rfl⟩
  have c0 := hid fun w => ref_right p.1 hp p.2 b hb w
  obtain ⟨A, cap, rfl, n1, m1⟩ := hR.form
  unfold maxLen at m1
  -- what the first says
  have L1 : ∃ (k1 : Int), longI now a (-1) 128 = k1 ∧ (k1 = -1 ∧ f1 = false ∧ r1 = (((0, 0), 0), 0) ∨ ∃ k : Nat, k1 = (k : Int) ∧ f1 = true ∧ now[k]? = some r1) := by
    refine ⟨_, rfl, ?_⟩
    have h129 : btK 128 = 129 := rfl
    rcases lp.out with ⟨hl, hbn⟩ | ⟨k, x, hl, hk, hbn⟩
    · left; rw [h129, e1] at hbn; subst hbn; exact ⟨hl, h1.symm, g1.symm⟩
    · right; rw [h129, e1] at hbn; subst hbn; exact ⟨k, hl, h1.symm, by rw [hk, g1]⟩
  have L2 : ∃ (k2 mo : Int), (p.2 < high ∧ mo = p.2 ∨ ¬ p.2 < high ∧ mo = high) ∧ longI now p.1 low mo = k2 ∧ (b = false ∧ f2 = false ∧ r2 = (((0, 0), 0), 0) ∨ b = true ∧ k2 = -1 ∧ f2 = false ∧ r2 = (((0, 0), 0), 0) ∨ b = true ∧ ∃ k : Nat, k2 = (k : Int) ∧ f2 = true ∧ now[k]? = some r2) := by
    refine ⟨_, min high p.2, by omega, rfl, ?_⟩
    by_cases hr : p.right
    · right
      have hbt : b = true := by rw [hb]; exact decide_eq_true hr
      unfold coverT at e2
      rw [if_pos hr] at e2
      rcases kp.out (min high p.2) with ⟨hl, hbn⟩ | ⟨k, x, hl, hk, hbn⟩
      · left; rw [e2] at hbn; subst hbn; exact ⟨hbt, hl, h2.symm, g2.symm⟩
      · right; rw [e2] at hbn; subst hbn; exact ⟨hbt, k, hl, h2.symm, by rw [hk, g2]⟩
    · left
      unfold coverT at e2
      rw [if_neg hr] at e2
      subst e2
      exact ⟨by rw [hb]; exact decide_eq_false hr, h2.symm, g2.symm⟩
  clear e1 e2 g1 g2 h1 h2 hb lp kp H hS hR HN ha hp
  obtain ⟨k1, E1, L1⟩ := L1
  obtain ⟨k2, mo, hmo, E2, L2⟩ := L2
  have HE1 := hid E1
  have HE2 := hid E2
  have HL1 := hid L1
  have HL2 := hid L2
  have HMO := hid hmo
  rw [HE1.out] at c2
  clear E1 E2 L1 L2 hmo
  obtain ⟨x, y⟩ := a
  obtain ⟨⟨a, b'⟩, i⟩ := p
  obtain ⟨⟨⟨r1x, r1y⟩, r1i⟩, r1h⟩ := r1
  obtain ⟨⟨⟨r2x, r2y⟩, r2i⟩, r2h⟩ := r2
  go_enter Try.func36, Try.ntmps36
  have BA := hid (Blk.new_at w #[.int .u64 (x : Int), .int .u64 (y : Int)] 24 w.heap.size rfl |>.alloc (.cells #[.int .u64 (a : Int), .int .u64 (b' : Int), .int .i64 i] 26))
  have BP := hid (Blk.new_at (w.alloc (.cells #[.int .u64 (x : Int), .int .u64 (y : Int)] 24)) #[.int .u64 (a : Int), .int .u64 (b' : Int), .int .i64 i] 26 (w.heap.size + 1) (by simp))
  have HB0 := hid (((Below.refl w.heap.size w).alloc (Nat.le_refl _) (.cells #[.int .u64 (x : Int), .int .u64 (y : Int)] 24)).alloc (by simp) (.cells #[.int .u64 (a : Int), .int .u64 (b' : Int), .int .i64 i] 26))
  go_wp2_with fail
  refine (c1.out _ HB0.out).mono ?_
  rintro _ w1 ⟨rfl, hb1⟩
  have BA1 := hid ((BA.out.below' hb1).alloc (.cells #[.int .u64 (r1x : Int), .int .u64 (r1y : Int), .int .i64 r1i, .int .i64 r1h] 51))
  have BP1 := hid ((BP.out.below' hb1).alloc (.cells #[.int .u64 (r1x : Int), .int .u64 (r1y : Int), .int .i64 r1i, .int .i64 r1h] 51))
  have HB1 := hid ((held_next HB0.out hb1).alloc (held_next HB0.out hb1).size (.cells #[.int .u64 (r1x : Int), .int .u64 (r1y : Int), .int .i64 r1i, .int .i64 r1h] 51))
  have BR1 := hid (Blk.new_at w1 #[.int .u64 (r1x : Int), .int .u64 (r1y : Int), .int .i64 r1i, .int .i64 r1h] 51 w1.heap.size rfl)
  have x0 := BA1.out.cellv (i := 0) rfl
  have x1 := BA1.out.cellv (i := 1) rfl
  have hs1 : w.heap.size + 1 < w1.heap.size := by have := BP.out.lt; have := hb1.size; omega
  clear hb1 BA BP HB0
  go_wp2_with fail
  refine (c2.out _ HB1.out).mono ?_
  rintro _ w2 ⟨rfl, hb2⟩
  have BP2 := hid (BP1.out.below' hb2)
  have BR2 := hid (BR1.out.below' hb2)
  have HB2 := hid (held_next HB1.out hb2)
  have t0 := BR2.out.cellv (i := 0) rfl
  have t1 := BR2.out.cellv (i := 1) rfl
  have t2 := BR2.out.cellv (i := 2) rfl
  have t3 := BR2.out.cellv (i := 3) rfl
  clear hb2 x0 x1 BA1 BP1 HB1 BR1
  have hparts : (k1 = -1 ∧ f1 = false ∧ (((r1x, r1y), r1i), r1h) = (((0, 0), 0), 0)) ∨ ∃ (k : Nat) (ba oa : Nat), k1 = (k : Int) ∧ f1 = true ∧ A = some ⟨ba, oa, none⟩ ∧ (k : Int) < (now.length : Int) ∧ w2.cell? ⟨ba, oa + k * 4, none⟩ = some (.int .u64 (r1x : Int)) ∧ w2.cell? ⟨ba, oa + k * 4 + 1, none⟩ = some (.int .u64 (r1y : Int)) ∧ w2.cell? ⟨ba, oa + k * 4 + 2, none⟩ = some (.int .i64 r1i) ∧ w2.cell? ⟨ba, oa + k * 4 + 3, none⟩ = some (.int .i64 r1h) := by
    rcases HL1.out with h | ⟨k, h1, h2, h3⟩
    · exact .inl h
    · right
      obtain ⟨ba, oa, ca, hv, _, _, la, sa⟩ := HGET.out k _ h3
      injection hv with hA hx1 hx2
      have hkl := (List.getElem?_eq_some_iff.1 h3).1
      have hc := fun j u (hu : (rtEn ((((r1x, r1y), r1i), r1h) : Rt))[j]? = some u) => (HB2.out.cell (p := ⟨ba, oa + k * 4 + j, none⟩) la).trans (sa j u hu)
      exact ⟨k, ba, oa, h1, h2, hA, by omega, hc 0 _ rfl, hc 1 _ rfl, hc 2 _ rfl, hc 3 _ rfl⟩
  rcases hparts with ⟨rfl, rfl, hz⟩ | ⟨k, ba, oa, rfl, rfl, rfl, hkn, u0, u1, u2, u3⟩

  · injection hz with hz1 hz4
    injection hz1 with hz1 hz3
    injection hz1 with hz1 hz2
    subst hz1 hz2 hz3 hz4
    have s0 := BP2.out.cellv (i := 0) rfl
    have s1 := BP2.out.cellv (i := 1) rfl
    have s2 := BP2.out.cellv (i := 2) rfl
    go_wp2_with fail
    go_quiet (fail)
    go_wp2_with fail
    refine (c3.out _ (HB2.out.drewN _)).mono ?_
    rintro _ w3 ⟨rfl, hb3⟩
    have BP3 := hid (((BP2.out.drewN _).below' hb3).alloc (.cells #[.int .u64 (r2x : Int), .int .u64 (r2y : Int), .int .i64 r2i, .int .i64 r2h] 51))
    have HB3 := hid ((held_next (HB2.out.drewN _) hb3).alloc (held_next (HB2.out.drewN _) hb3).size (.cells #[.int .u64 (r2x : Int), .int .u64 (r2y : Int), .int .i64 r2i, .int .i64 r2h] 51))
    have BR3 := hid (Blk.new_at w3 #[.int .u64 (r2x : Int), .int .u64 (r2y : Int), .int .i64 r2i, .int .i64 r2h] 51 w3.heap.size rfl)
    clear hb3 BP2 HB2 BR2 s0 s1 s2
    have s0 := BP3.out.cellv (i := 0) rfl
    have s1 := BP3.out.cellv (i := 1) rfl
    have s2 := BP3.out.cellv (i := 2) rfl
    go_wp2_with fail
    refine (c0.out _).mono ?_
    rintro _ w4 ⟨rfl, hb4⟩
    have BP4 := hid (BP3.out.below' hb4)
    have BR4 := hid (BR3.out.below' hb4)
    have HB4 := hid (held_next HB3.out hb4)
    clear hb4 BP3 HB3 BR3 s0 s1 s2
    have s0 := BP4.out.cellv (i := 0) rfl
    have s1 := BP4.out.cellv (i := 1) rfl
    have s2 := BP4.out.cellv (i := 2) rfl
    have z0 := BR4.out.cellv (i := 0) rfl
    have z1 := BR4.out.cellv (i := 1) rfl
    have z2 := BR4.out.cellv (i := 2) rfl
    have z3 := BR4.out.cellv (i := 3) rfl
    rcases HL2.out with ⟨rfl, rfl, hz⟩ | ⟨rfl, hk2, rfl, hz⟩ | ⟨rfl, j, hk2, rfl, hj⟩
    · injection hz with hz1 hz4
      injection hz1 with hz1 hz3
      injection hz1 with hz1 hz2
      subst hz1 hz2 hz3 hz4
      go_wp2_with fail
      go_quiet (fail)
      go_wp2_with fail
      go_ret
      exact ⟨rfl, HB4.out.drewN _⟩
    · injection hz with hz1 hz4
      injection hz1 with hz1 hz3
      injection hz1 with hz1 hz2
      subst hz1 hz2 hz3 hz4
      have c5 := hid fun w1 hb => c4.out w1 hb low mo
      rw [HE2.out, hk2] at c5
      rcases HMO.out with ⟨hlt, rfl⟩ | ⟨hlt, rfl⟩
      all_goals
        go_wp2_with fail
        refine (c5.out _ HB4.out).mono ?_
        rintro _ w5 ⟨rfl, hb5⟩
        have BR5 := BR4.out.below' hb5
        have HB5 := hid (held_next HB4.out hb5)
        clear hb5 z0 z1 z2 z3
        have z0 := BR5.cellv (i := 0) rfl
        have z1 := BR5.cellv (i := 1) rfl
        have z2 := BR5.cellv (i := 2) rfl
        have z3 := BR5.cellv (i := 3) rfl
        clear BR5
        go_wp2_with fail
        go_quiet (fail)
        go_wp2_with fail
        go_ret
        exact ⟨rfl, HB5.out.drewN _⟩
    · have c5 := hid fun w1 hb => c4.out w1 hb low mo
      rw [HE2.out, hk2] at c5
      obtain ⟨bb, ob, cb, hv, _, _, lb, sb⟩ := HGET.out j _ hj
      injection hv with hA hx1 hx2
      clear hx1 hx2
      have hjn : (j : Int) < (now.length : Int) := by have := (List.getElem?_eq_some_iff.1 hj).1; omega
      subst hA
      have HSB := hid fun (w' : World) (hb : Below w.heap.size w w') i u (hu : (rtEn ((((r2x, r2y), r2i), r2h) : Rt))[i]? = some u) => (hb.cell (p := ⟨bb, ob + j * 4 + i, none⟩) lb).trans (sb i u hu)
      clear hj sb
      rcases HMO.out with ⟨hlt, rfl⟩ | ⟨hlt, rfl⟩
      all_goals
        go_wp2_with fail
        refine (c5.out _ HB4.out).mono ?_
        rintro _ w5 ⟨rfl, hb5⟩
        have BR5 := BR4.out.below' hb5
        have HB5 := hid (held_next HB4.out hb5)
        clear hb5 z0 z1 z2 z3
        have z0 := BR5.cellv (i := 0) rfl
        have z1 := BR5.cellv (i := 1) rfl
        have z2 := BR5.cellv (i := 2) rfl
        have z3 := BR5.cellv (i := 3) rfl
        have q0 : w5.cell? ⟨bb, ob + j * 4, none⟩ = some (.int .u64 (r2x : Int)) := HSB.out w5 HB5.out 0 _ rfl
        have q1 : w5.cell? ⟨bb, ob + j * 4 + 1, none⟩ = some (.int .u64 (r2y : Int)) := HSB.out w5 HB5.out 1 _ rfl
        have q2 : w5.cell? ⟨bb, ob + j * 4 + 2, none⟩ = some (.int .i64 r2i) := HSB.out w5 HB5.out 2 _ rfl
        have q3 : w5.cell? ⟨bb, ob + j * 4 + 3, none⟩ = some (.int .i64 r2h) := HSB.out w5 HB5.out 3 _ rfl
        clear BR5
        go_wp2_with fail
        go_quiet (fail)
        go_wp2_with fail
        go_ret
        exact ⟨rfl, HB5.out.drewN _⟩
  · have s0 := BP2.out.cellv (i := 0) rfl
    have s1 := BP2.out.cellv (i := 1) rfl
    have s2 := BP2.out.cellv (i := 2) rfl
    go_wp2_with fail
    go_quiet (fail)
    go_wp2_with fail
    refine (c3.out _ (HB2.out.drewN _)).mono ?_
    rintro _ w3 ⟨rfl, hb3⟩
    have BP3 := hid (((BP2.out.drewN _).below' hb3).alloc (.cells #[.int .u64 (r2x : Int), .int .u64 (r2y : Int), .int .i64 r2i, .int .i64 r2h] 51))
    have HB3 := hid ((held_next (HB2.out.drewN _) hb3).alloc (held_next (HB2.out.drewN _) hb3).size (.cells #[.int .u64 (r2x : Int), .int .u64 (r2y : Int), .int .i64 r2i, .int .i64 r2h] 51))
    have BR3 := hid (Blk.new_at w3 #[.int .u64 (r2x : Int), .int .u64 (r2y : Int), .int .i64 r2i, .int .i64 r2h] 51 w3.heap.size rfl)
    clear hb3 BP2 HB2 BR2 s0 s1 s2
    have s0 := BP3.out.cellv (i := 0) rfl
    have s1 := BP3.out.cellv (i := 1) rfl
    have s2 := BP3.out.cellv (i := 2) rfl
    go_wp2_with fail
    refine (c0.out _).mono ?_
    rintro _ w4 ⟨rfl, hb4⟩
    have BP4 := hid (BP3.out.below' hb4)
    have BR4 := hid (BR3.out.below' hb4)
    have HB4 := hid (held_next HB3.out hb4)
    clear hb4 BP3 HB3 BR3 s0 s1 s2
    have s0 := BP4.out.cellv (i := 0) rfl
    have s1 := BP4.out.cellv (i := 1) rfl
    have s2 := BP4.out.cellv (i := 2) rfl
    have z0 := BR4.out.cellv (i := 0) rfl
    have z1 := BR4.out.cellv (i := 1) rfl
    have z2 := BR4.out.cellv (i := 2) rfl
    have z3 := BR4.out.cellv (i := 3) rfl
    rcases HL2.out with ⟨rfl, rfl, hz⟩ | ⟨rfl, hk2, rfl, hz⟩ | ⟨rfl, j, hk2, rfl, hj⟩
    · injection hz with hz1 hz4
      injection hz1 with hz1 hz3
      injection hz1 with hz1 hz2
      subst hz1 hz2 hz3 hz4
      go_wp2_with fail
      go_quiet (fail)
      go_wp2_with fail
      go_ret
      exact ⟨rfl, HB4.out.drewN _⟩
    · injection hz with hz1 hz4
      injection hz1 with hz1 hz3
      injection hz1 with hz1 hz2
      subst hz1 hz2 hz3 hz4
      have c5 := hid fun w1 hb => c4.out w1 hb low mo
      rw [HE2.out, hk2] at c5
      rcases HMO.out with ⟨hlt, rfl⟩ | ⟨hlt, rfl⟩
      all_goals
        go_wp2_with fail
        refine (c5.out _ HB4.out).mono ?_
        rintro _ w5 ⟨rfl, hb5⟩
        have BR5 := BR4.out.below' hb5
        have HB5 := hid (held_next HB4.out hb5)
        clear hb5 z0 z1 z2 z3
        have z0 := BR5.cellv (i := 0) rfl
        have z1 := BR5.cellv (i := 1) rfl
        have z2 := BR5.cellv (i := 2) rfl
        have z3 := BR5.cellv (i := 3) rfl
        clear BR5
        go_wp2_with fail
        go_quiet (fail)
        go_wp2_with fail
        go_ret
        exact ⟨rfl, HB5.out.drewN _⟩
    · have c5 := hid fun w1 hb => c4.out w1 hb low mo
      rw [HE2.out, hk2] at c5
      obtain ⟨bb, ob, cb, hv, _, _, lb, sb⟩ := HGET.out j _ hj
      injection hv with hA hx1 hx2
      clear hx1 hx2
      have hjn : (j : Int) < (now.length : Int) := by have := (List.getElem?_eq_some_iff.1 hj).1; omega
      injection hA with hA
      injection hA with hA1 hA2
      have hA1 := hA1.symm
      have hA2 := hA2.symm
      subst hA1 hA2
      have HSB := hid fun (w' : World) (hb : Below w.heap.size w w') i u (hu : (rtEn ((((r2x, r2y), r2i), r2h) : Rt))[i]? = some u) => (hb.cell (p := ⟨bb, ob + j * 4 + i, none⟩) lb).trans (sb i u hu)
      clear hj sb
      rcases HMO.out with ⟨hlt, rfl⟩ | ⟨hlt, rfl⟩
      all_goals
        go_wp2_with fail
        refine (c5.out _ HB4.out).mono ?_
        rintro _ w5 ⟨rfl, hb5⟩
        have BR5 := BR4.out.below' hb5
        have HB5 := hid (held_next HB4.out hb5)
        clear hb5 z0 z1 z2 z3
        have z0 := BR5.cellv (i := 0) rfl
        have z1 := BR5.cellv (i := 1) rfl
        have z2 := BR5.cellv (i := 2) rfl
        have z3 := BR5.cellv (i := 3) rfl
        have q0 : w5.cell? ⟨bb, ob + j * 4, none⟩ = some (.int .u64 (r2x : Int)) := HSB.out w5 HB5.out 0 _ rfl
        have q1 : w5.cell? ⟨bb, ob + j * 4 + 1, none⟩ = some (.int .u64 (r2y : Int)) := HSB.out w5 HB5.out 1 _ rfl
        have q2 : w5.cell? ⟨bb, ob + j * 4 + 2, none⟩ = some (.int .i64 r2i) := HSB.out w5 HB5.out 2 _ rfl
        have q3 : w5.cell? ⟨bb, ob + j * 4 + 3, none⟩ = some (.int .i64 r2h) := HSB.out w5 HB5.out 3 _ rfl
        clear BR5
        go_wp2_with fail
        go_quiet (fail)
        go_wp2_with fail
        go_ret
        exact ⟨rfl, HB5.out.drewN _⟩

end Go.Proofs.Ytjhgmjfjlndomaa
