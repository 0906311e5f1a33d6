/-
  The document's Level, the law's comparison of two rows of changes. No condition but that there are no more than ninety routes.
-/
import Derived.Test.YtcchjljdhjkmeaaRefOf
namespace Go.Proofs.Ytcchjljdhjkmeaa
open Go.RowKit
set_option linter.unusedVariables false
set_option linter.unusedSimpArgs false
set_option maxRecDepth 100000

theorem set_sorted (l : List Rt) (low high : Int) : setL (sortedL l) low high = setL l low high := by
  unfold setL
  rw [sorted_idem]
  congr 1
  refine List.map_congr_left fun k _ => ?_
  unfold atH
  rw [ofM_sorted]
set_option maxHeartbeats 4000000 in
theorem ref_level (w : World) (v : Value) (l : List Rt) (hR : Rd rtEn 4 w v l) (hok : ∀ r ∈ l, r.1.1.ok) (hlen : l.length ≤ 90) (p : Pf) (hp : p.1.ok) (hop low high : Int) (wh : -9223372036854775808 ≤ high ∧ high ≤ 9223372036854775807) :
    Calls Try.prog 35 #[v, .agg #[.int .u64 (p.1.1 : Int), .int .u64 (p.1.2 : Int), .int .i64 p.2], .int .i64 hop, .int .i64 low, .int .i64 high] w (RetRChs w (levelD l p hop low high)) := by
  have cS := hid (fun (w' : World) (h : Below w.heap.size w w') => ref_sorted w' v l (hR.below rtEn_length h) (by omega))
  have cW := hid (fun (w' : World) (v' : Value) (h : Rd rtEn 4 w' v' (sortedL l)) => ref_without w' v' (sortedL l) h (by have := sorted_le l; omega) p)
  have cI := hid (fun (w' : World) (v' : Value) (h : Rd rtEn 4 w' v' (withoutL (sortedL l) p)) => ref_into w' v' (withoutL (sortedL l) p) h (by have := sorted_le l; have := without_le (sortedL l) p; omega) (p, hop))
  have cX1 := hid (fun (w' : World) (h : Below w.heap.size w w') => ref_set w' v l (hR.below rtEn_length h) hok (by omega) low high wh)
  have HTU := hid (show (0 ≤ hop → turnL (sortedL l) p hop = intoL (withoutL (sortedL l) p) (p, hop)) ∧ (¬ 0 ≤ hop → turnL (sortedL l) p hop = withoutL (sortedL l) p) from by unfold turnL; exact ⟨fun h => by rw [if_pos h], fun h => by rw [if_neg h]⟩)
  have HMS := hid (show turnL (sortedL l) p hop = sortedL (withL l p hop) from (sorted_with l p hop).symm)
  have HMO := hid (show ∀ r ∈ turnL (sortedL l) p hop, r.1.1.ok from fun r hr => by rw [HMS.out] at hr; exact with_ok hok hp hop r (sorted_mem hr))
  have HML := hid (show (turnL (sortedL l) p hop).length ≤ 91 from by rw [HMS.out]; have := sorted_le (withL l p hop); have := with_len l p hop; omega)
  have HSE := hid (show setL (turnL (sortedL l) p hop) low high = setL (withL l p hop) low high from by rw [HMS.out, set_sorted])
  have cX2 := hid (fun (w' : World) (v' : Value) (h : Rd rtEn 4 w' v' (turnL (sortedL l) p hop)) => ref_set w' v' _ h HMO.out (by have := HML.out; omega) low high wh)
  rw [HSE.out] at cX2
  have cOf := hid (fun (w' : World) (v1 v2 : Value) (h1 : Rd rtEn 4 w' v1 (setL l low high)) (h2 : Rd rtEn 4 w' v2 (setL (withL l p hop) low high)) => ref_of w' v1 v2 _ _ h1 h2 (by have := set_len l low high; omega) (by have := set_len (withL l p hop) low high; have := with_len l p hop; omega))
  rw [sorted_fix (set_ord _ _ _), sorted_fix (set_ord _ _ _)] at cOf
  have HD := hid (show mergeD (setL l low high) (setL (withL l p hop) low high) = levelD l p hop low high from rfl)
  rw [HD.out] at cOf
  obtain ⟨A, cap, rfl, n1, m1⟩ := hR.form
  unfold maxLen at m1
  generalize setL l low high = S1 at cX1 cOf
  generalize setL (withL l p hop) low high = S2 at cX2 cOf HSE
  generalize levelD l p hop low high = D at cOf HD ⊢
  generalize turnL (sortedL l) p hop = M at HTU HMS HMO HML HSE cX2
  generalize sortedL l = T at cS cW cI HTU HMS
  generalize hWW : withoutL T p = WW at cW cI HTU
  have HB0 := hid ((Below.refl w.heap.size w).alloc (Nat.le_refl _) (.cells #[.int .u64 (p.1.1 : Int), .int .u64 (p.1.2 : Int), .int .i64 p.2] 37))
  have BP := hid (Blk.new w [.int .u64 (p.1.1 : Int), .int .u64 (p.1.2 : Int), .int .i64 p.2] 37)
  obtain ⟨n, hn⟩ : ∃ n, l.length = n := ⟨_, rfl⟩
  rw [hn] at cS cX1 n1 ⊢
  clear hR hok hlen hWW HD HMS HMO HML HSE hn
  obtain ⟨⟨px, py⟩, pn⟩ := p
  simp only at HB0 BP cW cI
  go_enter Try.func35, Try.ntmps35
  go_wp2_with fail
  have hS : ((w.alloc (.cells #[.int .u64 (px : Int), .int .u64 (py : Int), .int .i64 pn] 37)).drew.cell? ⟨w.heap.size, 0, none⟩ = some (.int .u64 (px : Int)) ∧ (w.alloc (.cells #[.int .u64 (px : Int), .int .u64 (py : Int), .int .i64 pn] 37)).drew.cell? ⟨w.heap.size, 1, none⟩ = some (.int .u64 (py : Int)) ∧ (w.alloc (.cells #[.int .u64 (px : Int), .int .u64 (py : Int), .int .i64 pn] 37)).drew.cell? ⟨w.heap.size, 2, none⟩ = some (.int .i64 pn)) := ⟨BP.out.drew.cellv (i := 0) rfl, BP.out.drew.cellv (i := 1) rfl, BP.out.drew.cellv (i := 2) rfl⟩
  refine wp_region_ord (fun w' => (w'.cell? ⟨w.heap.size, 0, none⟩ = some (.int .u64 (px : Int)) ∧ w'.cell? ⟨w.heap.size, 1, none⟩ = some (.int .u64 (py : Int)) ∧ w'.cell? ⟨w.heap.size, 2, none⟩ = some (.int .i64 pn))) (by kernel_rfl) hS ?_
  refine ord_still 0 rfl (v := ?_) (by kernel_rfl) (fun _ _ _ h => h) rfl (fun W hW => ?_) hS ?_
  rotate_left
  · try dsimp only at hW
    go_simp
    try with_reducible rfl
  simp only [Act.put, List.setIfInBounds_toArray, List.set_cons_zero, List.set_cons_succ]
  refine ord_still 2 rfl (v := ?_) (by kernel_rfl) (fun _ _ _ h => h) rfl (fun W hW => ?_) hS ?_
  rotate_left
  · try dsimp only at hW
    go_simp
    try with_reducible rfl
  simp only [Act.put, List.setIfInBounds_toArray, List.set_cons_zero, List.set_cons_succ]
  refine ord_alone 1 rfl (by kernel_rfl) rfl (fun K hK => ?_)
  go_simp
  refine (cS.out _ HB0.out.drew).mono ?_
  rintro _ w2 ⟨v2, rfl, hO2, hb2⟩
  have HB2 := hid (held_next HB0.out.drew hb2)
  have BP2 := hid (BP.out.drew.below' hb2)
  have cW2 := hid (cW.out w2 v2 hO2.rd)
  clear hO2 hb2 cS cW
  clear hS
  have hS : (w2.cell? ⟨w.heap.size, 0, none⟩ = some (.int .u64 (px : Int)) ∧ w2.cell? ⟨w.heap.size, 1, none⟩ = some (.int .u64 (py : Int)) ∧ w2.cell? ⟨w.heap.size, 2, none⟩ = some (.int .i64 pn)) := ⟨BP2.out.cellv (i := 0) rfl, BP2.out.cellv (i := 1) rfl, BP2.out.cellv (i := 2) rfl⟩
  refine hK.out _ _ hS ?_
  clear hK
  refine ord_alone 3 rfl (by kernel_rfl) rfl (fun K hK => ?_)
  go_simp
  refine (cW2.out).mono ?_
  rintro _ w3 ⟨v3, rfl, hO3, hb3⟩
  have HB3 := hid (held_next HB2.out hb3)
  have BP3 := hid (BP2.out.below' hb3)
  have HR3 := hid hO3.rd
  clear hO3 hb3 cW2
  clear hS
  have hS : (w3.cell? ⟨w.heap.size, 0, none⟩ = some (.int .u64 (px : Int)) ∧ w3.cell? ⟨w.heap.size, 1, none⟩ = some (.int .u64 (py : Int)) ∧ w3.cell? ⟨w.heap.size, 2, none⟩ = some (.int .i64 pn)) := ⟨BP3.out.cellv (i := 0) rfl, BP3.out.cellv (i := 1) rfl, BP3.out.cellv (i := 2) rfl⟩
  refine hK.out _ _ hS ?_
  clear hK
  refine ord_still 4 rfl (v := ?_) (by kernel_rfl) (fun _ _ _ h => h) rfl (fun W hW => ?_) hS ?_
  rotate_left
  · try dsimp only at hW
    go_simp
    try with_reducible rfl
  simp only [Act.put, List.setIfInBounds_toArray, List.set_cons_zero, List.set_cons_succ]
  refine ord_done (by kernel_rfl) ?_
  clear hS
  have p0 := BP3.out.cellv (i := 0) rfl
  have p1 := BP3.out.cellv (i := 1) rfl
  have p2 := BP3.out.cellv (i := 2) rfl
  clear BP BP2 BP3 HB0 HB2
  by_cases hh : 0 ≤ hop
  · have HTE := hid (HTU.out.1 hh)
    have cI3 := hid (cI.out w3 v3 HR3.out)
    rw [← HTE.out] at cI3
    have h1 : hop ≥ 0 := hh
    go_wp2_with fail
    refine cI3.out.mono ?_
    rintro _ w4 ⟨v4, rfl, hO4, hb4⟩
    have HB4 := hid (held_next HB3.out hb4)
    have HR4 := hid hO4.rd
    clear hO4 hb4 cI3 cI HR3
    go_wp2_with fail
    refine (cX1.out _ HB4.out).mono ?_
    rintro _ w5 ⟨v5, rfl, hO5, hb5⟩
    have HB5 := hid (held_next HB4.out hb5)
    have HR5 := hid hO5.rd
    have c6 := hid (cX2.out w5 _ (HR4.out.below rtEn_length hb5))
    clear hO5 hb5
    go_wp2_with fail
    refine c6.out.mono ?_
    rintro _ w6 ⟨v6, rfl, hO6, hb6⟩
    have HB6 := hid (held_next HB5.out hb6)
    have c7 := hid (cOf.out w6 v5 v6 (HR5.out.below rtEn_length hb6) hO6.rd)
    clear hO6 hb6 c6
    go_wp2_with fail
    refine c7.out.mono ?_
    rintro _ w7 ⟨v7, rfl, hO7, hb7⟩
    have HB7 := hid (held_next HB6.out hb7)
    have HO7 := hid (hO7.lower HB6.out.size)
    clear hO7 hb7 c7
    go_wp2_with fail
    go_ret
    exact ⟨_, rfl, HO7.out, HB7.out⟩
  · have HTE := hid (HTU.out.2 (by omega))
    have hr3 := HR3.out
    rw [← HTE.out] at hr3
    have HR4 := hid hr3
    have h1 : ¬ hop ≥ 0 := hh
    clear hr3
    go_wp2_with fail
    refine (cX1.out _ HB3.out).mono ?_
    rintro _ w5 ⟨v5, rfl, hO5, hb5⟩
    have HB5 := hid (held_next HB3.out hb5)
    have HR5 := hid hO5.rd
    have c6 := hid (cX2.out w5 _ (HR4.out.below rtEn_length hb5))
    clear hO5 hb5
    go_wp2_with fail
    refine c6.out.mono ?_
    rintro _ w6 ⟨v6, rfl, hO6, hb6⟩
    have HB6 := hid (held_next HB5.out hb6)
    have c7 := hid (cOf.out w6 v5 v6 (HR5.out.below rtEn_length hb6) hO6.rd)
    clear hO6 hb6 c6
    go_wp2_with fail
    refine c7.out.mono ?_
    rintro _ w7 ⟨v7, rfl, hO7, hb7⟩
    have HB7 := hid (held_next HB6.out hb7)
    have HO7 := hid (hO7.lower HB6.out.size)
    clear hO7 hb7 c7
    go_wp2_with fail
    go_ret
    exact ⟨_, rfl, HO7.out, HB7.out⟩

theorem eq_ch (d : Nat) (w : World) (x0 y0 x1 y1 x2 y2 x3 y3 x4 y4 : Int) :
    (Op.equalIn (d + 4) 44 (.agg #[.int .u64 x0, .int .u64 x1, .int .i64 x2, .int .i64 x3, .int .i64 x4]) (.agg #[.int .u64 y0, .int .u64 y1, .int .i64 y2, .int .i64 y3, .int .i64 y4])).run Try.prog w = .ok (((x0 == y0 && (x1 == y1)) && (x2 == y2)) && ((x3 == y3) && (x4 == y4))) w := by
  refine eqs_of Try.underlying44 (by kernel_rfl) ?_
  refine eqf2 (by rfl) (by (go_simp; try rfl)) (by (go_simp; try rfl)) (eq_pf _ _ _ _ _ _ _ _) ?_
  refine eqf2 (by rfl) (by (go_simp; try rfl)) (by (go_simp; try rfl)) (by go_simp) ?_
  exact eqf1 (by rfl) (by (go_simp; try rfl)) (by (go_simp; try rfl)) (by go_simp)
attribute [local go_sem high] eq_ad eq_pf eq_ch
theorem guard_ch : Try.prog.eqGuardType Try.prog.depth 44 = false := by kernel_rfl
def SmRel (w : World) (n : Nat) (i : Value) (wr : World) : Prop := ∃ j : Nat, j ≤ n ∧ i = .int .i64 j ∧ Below w.heap.size w wr
theorem cell5' {w w' : World} {b o j : Nat} {r : Ch} (lb : b < w.heap.size) (sa : ∀ i u, (chgEn r)[i]? = some u → w.cell? ⟨b, o + j * 5 + i, none⟩ = some u) (h : Below w.heap.size w w') :
    w'.cell? ⟨b, o + j * 5, none⟩ = some (.int .u64 (r.1.1.1 : Int)) ∧ w'.cell? ⟨b, o + j * 5 + 1, none⟩ = some (.int .u64 (r.1.1.2 : Int)) ∧ w'.cell? ⟨b, o + j * 5 + 2, none⟩ = some (.int .i64 r.1.2) ∧ w'.cell? ⟨b, o + j * 5 + 3, none⟩ = some (.int .i64 r.2.1) ∧ w'.cell? ⟨b, o + j * 5 + 4, none⟩ = some (.int .i64 r.2.2) :=
  ⟨(h.cell (p := ⟨b, o + j * 5, none⟩) lb).trans (sa 0 _ rfl), (h.cell (p := ⟨b, o + j * 5 + 1, none⟩) lb).trans (sa 1 _ rfl), (h.cell (p := ⟨b, o + j * 5 + 2, none⟩) lb).trans (sa 2 _ rfl), (h.cell (p := ⟨b, o + j * 5 + 3, none⟩) lb).trans (sa 3 _ rfl), (h.cell (p := ⟨b, o + j * 5 + 4, none⟩) lb).trans (sa 4 _ rfl)⟩
set_option maxHeartbeats 4000000 in
theorem same_true (w : World) (v1 v2 : Value) (L : List Ch) (R1 : Rd chgEn 5 w v1 L) (R2 : Rd chgEn 5 w v2 L) :
    Calls Try.prog 32 #[v1, v2] w fun e w' => e = .returned (.bool true) ∧ Below w.heap.size w w' := by
  have hg := guard_ch
  have HR1 := hid R1
  have HR2 := hid R2
  obtain ⟨A, c1, rfl, a1, a2⟩ := R1.form
  obtain ⟨B, c2, rfl, b1, b2⟩ := R2.form
  obtain ⟨n, hn⟩ : ∃ n, L.length = n := ⟨_, rfl⟩
  unfold maxLen at a2 b2
  rw [hn] at HR1 HR2 a1 b1 ⊢
  have HN := hid hn
  clear R1 R2 hn
  go_enter Try.func32, Try.ntmps32
  go_wp2_with fail
  go_loopw [5] (fun i wr => SmRel w n i wr) (fun i _ => n - (intOf i).toNat)
  case atStart => exact ⟨0, Nat.zero_le _, rfl, Below.refl _ _⟩
  case round =>
    obtain ⟨j, hj, rfl, hB⟩ := hrel
    have HB := hid hB
    clear hB
    by_cases hjn : j < n
    · obtain ⟨x, hx⟩ : ∃ x, L[j]? = some x := ⟨_, List.getElem?_eq_getElem (by rw [HN.out]; exact hjn)⟩
      obtain ⟨bx, ox, qx, hvx, _, _, lx, sx⟩ := HR1.out.get chgEn_len (by decide) hx
      injection hvx with d1 d2 d3
      subst d1 d3
      obtain ⟨bz, oz, qz, hvz, _, _, lz, sz⟩ := HR2.out.get chgEn_len (by decide) hx
      injection hvz with e1 e2 e3
      subst e1 e3
      have HCX := hid (fun (w' : World) (h : Below w.heap.size w w') => cell5' lx sx h)
      have HCZ := hid (fun (w' : World) (h : Below w.heap.size w w') => cell5' lz sz h)
      have j0 : (0 : Int) ≤ (j : Int) := by omega
      have j1 : (j : Int) < (n : Int) := by omega
      have e4 : IntKind.i64.wrap ((j : Int) + 1) = (j : Int) + 1 := by rw [IntKind.wrap_i64]; omega
      have HJ := hid hjn
      obtain ⟨⟨⟨x1, x2⟩, x3⟩, x4, x5⟩ := x
      clear hx sx sz lx lz d2 e2 hjn
      go_wp2_with fail
      have hS : (wr.drew.cell? ⟨bx, ox + j * 5, none⟩ = some (.int .u64 (x1 : Int)) ∧ wr.drew.cell? ⟨bx, ox + j * 5 + 1, none⟩ = some (.int .u64 (x2 : Int)) ∧ wr.drew.cell? ⟨bx, ox + j * 5 + 2, none⟩ = some (.int .i64 x3) ∧ wr.drew.cell? ⟨bx, ox + j * 5 + 3, none⟩ = some (.int .i64 x4) ∧ wr.drew.cell? ⟨bx, ox + j * 5 + 4, none⟩ = some (.int .i64 x5)) ∧ (wr.drew.cell? ⟨bz, oz + j * 5, none⟩ = some (.int .u64 (x1 : Int)) ∧ wr.drew.cell? ⟨bz, oz + j * 5 + 1, none⟩ = some (.int .u64 (x2 : Int)) ∧ wr.drew.cell? ⟨bz, oz + j * 5 + 2, none⟩ = some (.int .i64 x3) ∧ wr.drew.cell? ⟨bz, oz + j * 5 + 3, none⟩ = some (.int .i64 x4) ∧ wr.drew.cell? ⟨bz, oz + j * 5 + 4, none⟩ = some (.int .i64 x5)) := ⟨HCX.out _ HB.out.drew, HCZ.out _ HB.out.drew⟩
      refine wp_region_ord (fun w' => (w'.cell? ⟨bx, ox + j * 5, none⟩ = some (.int .u64 (x1 : Int)) ∧ w'.cell? ⟨bx, ox + j * 5 + 1, none⟩ = some (.int .u64 (x2 : Int)) ∧ w'.cell? ⟨bx, ox + j * 5 + 2, none⟩ = some (.int .i64 x3) ∧ w'.cell? ⟨bx, ox + j * 5 + 3, none⟩ = some (.int .i64 x4) ∧ w'.cell? ⟨bx, ox + j * 5 + 4, none⟩ = some (.int .i64 x5)) ∧ (w'.cell? ⟨bz, oz + j * 5, none⟩ = some (.int .u64 (x1 : Int)) ∧ w'.cell? ⟨bz, oz + j * 5 + 1, none⟩ = some (.int .u64 (x2 : Int)) ∧ w'.cell? ⟨bz, oz + j * 5 + 2, none⟩ = some (.int .i64 x3) ∧ w'.cell? ⟨bz, oz + j * 5 + 3, none⟩ = some (.int .i64 x4) ∧ w'.cell? ⟨bz, oz + j * 5 + 4, none⟩ = some (.int .i64 x5))) (by kernel_rfl) hS ?_
      refine ord_still 0 rfl (v := ?_) (by kernel_rfl) (fun _ _ _ h => h) rfl (fun W hW => ?_) hS ?_
      rotate_left
      · try dsimp only at hW
        go_simp
        try with_reducible rfl
      simp only [Act.put, List.setIfInBounds_toArray, List.set_cons_zero, List.set_cons_succ]
      refine ord_still 1 rfl (v := ?_) (by kernel_rfl) (fun _ _ _ h => h) rfl (fun W hW => ?_) hS ?_
      rotate_left
      · try dsimp only at hW
        go_simp
        try with_reducible rfl
      simp only [Act.put, List.setIfInBounds_toArray, List.set_cons_zero, List.set_cons_succ]
      refine ord_still 2 rfl (v := ?_) (by kernel_rfl) (fun _ _ _ h => h) rfl (fun W hW => ?_) hS ?_
      rotate_left
      · try dsimp only at hW
        go_simp
        try with_reducible rfl
      simp only [Act.put, List.setIfInBounds_toArray, List.set_cons_zero, List.set_cons_succ]
      refine ord_still 3 rfl (v := ?_) (by kernel_rfl) (fun _ _ _ h => h) rfl (fun W hW => ?_) hS ?_
      rotate_left
      · try dsimp only at hW
        go_simp
        try with_reducible rfl
      simp only [Act.put, List.setIfInBounds_toArray, List.set_cons_zero, List.set_cons_succ]
      refine ord_still 4 rfl (v := ?_) (by kernel_rfl) (fun _ _ _ h => h) rfl (fun W hW => ?_) hS ?_
      rotate_left
      · try dsimp only at hW
        go_simp
        try with_reducible rfl
      simp only [Act.put, List.setIfInBounds_toArray, List.set_cons_zero, List.set_cons_succ]
      refine ord_still 5 rfl (v := ?_) (by kernel_rfl) (fun _ _ _ h => h) rfl (fun W hW => ?_) hS ?_
      rotate_left
      · try dsimp only at hW
        go_simp
        try with_reducible rfl
      simp only [Act.put, List.setIfInBounds_toArray, List.set_cons_zero, List.set_cons_succ]
      refine ord_still 6 rfl (v := ?_) (by kernel_rfl) (fun _ _ _ h => h) rfl (fun W hW => ?_) hS ?_
      rotate_left
      · try dsimp only at hW
        go_simp
        try with_reducible rfl
      simp only [Act.put, List.setIfInBounds_toArray, List.set_cons_zero, List.set_cons_succ]
      refine ord_still 7 rfl (v := ?_) (by kernel_rfl) (fun _ _ _ h => h) rfl (fun W hW => ?_) hS ?_
      rotate_left
      · try dsimp only at hW
        go_simp
        try with_reducible rfl
      simp only [Act.put, List.setIfInBounds_toArray, List.set_cons_zero, List.set_cons_succ]
      refine ord_still 8 rfl (v := ?_) (by kernel_rfl) (fun _ _ _ h => h) rfl (fun W hW => ?_) hS ?_
      rotate_left
      · try dsimp only at hW
        go_simp
        try with_reducible rfl
      simp only [Act.put, List.setIfInBounds_toArray, List.set_cons_zero, List.set_cons_succ]
      refine ord_done (by kernel_rfl) ?_
      clear hS
      go_wp2_with fail
      go_roundw
      case rel => exact ⟨j + 1, by have := HJ.out; omega, by go_num, HB.out.drew⟩
      case measure => have := HJ.out; simp [intOf]; omega
    · have c3 : ¬ (j : Int) < (n : Int) := by omega
      go_wp2_with fail
      go_ret
      exact ⟨rfl, HB.out⟩
end Go.Proofs.Ytcchjljdhjkmeaa
