/-
  The law DeltaTells: what turns between any two sets, and in a level when a route comes, or goes. No condition.
-/
import Derived.Test.YtcchjljdhjkmeaaRefLevel
import Derived.Test.YtcchjljdhjkmeaaDeltaLaw
namespace Go.Proofs.Ytcchjljdhjkmeaa
open Go.RowKit
set_option linter.unusedVariables false
set_option linter.unusedSimpArgs false
set_option maxRecDepth 100000

theorem deltaTells_out (W : World) (A : Option Addr) (n cap : Nat) (hn : n ≤ cap) (hc : cap ≤ maxLen) (B : Option Addr) (m cap2 : Nat) (hm : m ≤ cap2) (hc2 : cap2 ≤ maxLen) (p : Pf) (hop low high : Int) (h : ¬ (n ≤ 30 ∧ m ≤ 30)) :
    Calls Try.prog 8 #[.slice A n cap, .slice B m cap2, .agg #[.int .u64 (p.1.1 : Int), .int .u64 (p.1.2 : Int), .int .i64 p.2], .int .i64 hop, .int .i64 low, .int .i64 high] W fun e W' => e = .returned (.bool true) ∧ Below W.heap.size W W' := by
  unfold maxLen at hc hc2
  obtain ⟨⟨px, py⟩, pn⟩ := p
  go_enter Try.func8, Try.ntmps8
  go_wp2_with fail
  refine (delta_alive _).mono ?_
  rintro _ w1 ⟨rfl, hb⟩
  have HB := hid (((Below.refl W.heap.size W).alloc (Nat.le_refl _) (.cells #[.int .u64 (px : Int), .int .u64 (py : Int), .int .i64 pn] 37)).trans (hb.mono (by simp)))
  clear hb
  by_cases h1 : n ≤ 30
  · have c1 : ¬ (n : Int) > 30 := by omega
    have c2 : (m : Int) > 30 := by omega
    clear h h1
    go_wp2_with fail
    go_ret
    exact ⟨rfl, HB.out⟩
  · have c1 : (n : Int) > 30 := by omega
    clear h h1
    go_wp2_with fail
    go_ret
    exact ⟨rfl, HB.out⟩

set_option maxHeartbeats 4000000 in
theorem deltaTells_in (W : World) (v1 : Value) (l1 : List Rt) (R1 : Rd rtEn 4 W v1 l1) (v2 : Value) (l2 : List Rt) (R2 : Rd rtEn 4 W v2 l2) (hok : ∀ r ∈ l1, r.1.1.ok) (p : Pf) (hp : p.1.ok) (hop low high : Int) (wh : -9223372036854775808 ≤ high ∧ high ≤ 9223372036854775807) (h1 : l1.length ≤ 30) (h2 : l2.length ≤ 30) :
    Calls Try.prog 8 #[v1, v2, .agg #[.int .u64 (p.1.1 : Int), .int .u64 (p.1.2 : Int), .int .i64 p.2], .int .i64 hop, .int .i64 low, .int .i64 high] W fun e W' => e = .returned (.bool true) ∧ Below W.heap.size W W' := by
  have HR1 := hid R1
  have cD := hid (fun (w' : World) (v' : Value) (h' : Rd rtEn 4 w' v' l1) (h : Below W.heap.size W w') => delta_of w' v' v2 l1 l2 h' (R2.below rtEn_length h) (by omega) (by omega))
  have cF := hid (fun (w' : World) (h : Below W.heap.size W w') => ref_of w' v1 v2 l1 l2 (R1.below rtEn_length h) (R2.below rtEn_length h) (by omega) (by omega))
  have cL := hid (fun (w' : World) (h : Below W.heap.size W w') => delta_level w' v1 l1 (R1.below rtEn_length h) hok (by omega) p hp hop low high)
  have cM := hid (fun (w' : World) (h : Below W.heap.size W w') => ref_level w' v1 l1 (R1.below rtEn_length h) hok (by omega) p hp hop low high wh)
  generalize mergeD (sortedL l1) (sortedL l2) = D at cD cF
  generalize levelD l1 p hop low high = E at cL cM
  obtain ⟨A, cap, rfl, n1, m1⟩ := R1.form
  obtain ⟨B, cap2, rfl, n2, m2⟩ := R2.form
  unfold maxLen at m1 m2
  clear R1 R2
  obtain ⟨n, hn⟩ : ∃ n, l1.length = n := ⟨_, rfl⟩
  obtain ⟨m, hm⟩ : ∃ m, l2.length = m := ⟨_, rfl⟩
  have c1 : ¬ (n : Int) > 30 := by omega
  have c2 : ¬ (m : Int) > 30 := by omega
  have HN := hid hn
  rw [hn] at HR1 cF cL cM n1 h1 ⊢
  rw [hm] at cD cF n2 h2 ⊢
  clear hn hm hok
  obtain ⟨⟨px, py⟩, pn⟩ := p
  simp only at cL cM
  go_enter Try.func8, Try.ntmps8
  go_wp2_with fail
  refine (delta_alive _).mono ?_
  rintro _ w1 ⟨rfl, hb⟩
  have BK := hid ((Blk.new W [.int .u64 (px : Int), .int .u64 (py : Int), .int .i64 pn] 37).below' hb)
  have HB1 := hid (((Below.refl W.heap.size W).alloc (Nat.le_refl _) (.cells #[.int .u64 (px : Int), .int .u64 (py : Int), .int .i64 pn] 37)).trans (hb.mono (by simp)))
  clear hb
  go_wp2_with fail
  have hS : (w1.drew.cell? ⟨W.heap.size, 0, none⟩ = some (.int .u64 (px : Int)) ∧ w1.drew.cell? ⟨W.heap.size, 1, none⟩ = some (.int .u64 (py : Int)) ∧ w1.drew.cell? ⟨W.heap.size, 2, none⟩ = some (.int .i64 pn)) := ⟨BK.out.drew.cellv (i := 0) rfl, BK.out.drew.cellv (i := 1) rfl, BK.out.drew.cellv (i := 2) rfl⟩
  refine wp_region_ord (fun w' => (w'.cell? ⟨W.heap.size, 0, none⟩ = some (.int .u64 (px : Int)) ∧ w'.cell? ⟨W.heap.size, 1, none⟩ = some (.int .u64 (py : Int)) ∧ w'.cell? ⟨W.heap.size, 2, none⟩ = some (.int .i64 pn))) (by kernel_rfl) hS ?_
  refine ord_still 0 rfl (v := ?_) (by kernel_rfl) (fun _ _ _ h => h) rfl (fun W hW => ?_) hS ?_
  rotate_left
  · try dsimp only at hW
    go_simp
    try with_reducible rfl
  simp only [Act.put, List.setIfInBounds_toArray, List.set_cons_zero, List.set_cons_succ]
  refine ord_still 2 rfl (v := ?_) (by kernel_rfl) (fun _ _ _ h => h) rfl (fun W hW => ?_) hS ?_
  rotate_left
  · try dsimp only at hW
    go_simp
    try with_reducible rfl
  simp only [Act.put, List.setIfInBounds_toArray, List.set_cons_zero, List.set_cons_succ]
  refine ord_still 4 rfl (v := ?_) (by kernel_rfl) (fun _ _ _ h => h) rfl (fun W hW => ?_) hS ?_
  rotate_left
  · try dsimp only at hW
    go_simp
    try with_reducible rfl
  simp only [Act.put, List.setIfInBounds_toArray, List.set_cons_zero, List.set_cons_succ]
  refine ord_still 5 rfl (v := ?_) (by kernel_rfl) (fun _ _ _ h => h) rfl (fun W hW => ?_) hS ?_
  rotate_left
  · try dsimp only at hW
    go_simp
    try with_reducible rfl
  simp only [Act.put, List.setIfInBounds_toArray, List.set_cons_zero, List.set_cons_succ]
  refine ord_alone 1 rfl (by kernel_rfl) rfl (fun K hK => ?_)
  refine wp_append_rd (.const (.slice none 0 0)) _ 22 rfl 39 _ 4 32 Try.underlying22 rt_row rfl (by decide) w1.drew.heap.size _ 0 [] rfl (Owns.nil _ _ _ _) _ rfl l1 (HR1.out.below rtEn_length HB1.out.drew) rtEn_length cells_rt ?_ ?_ ?_ ?_
  · rw [HN.out]; unfold maxLen; omega
  · rw [HN.out]; omega
  · exact Nat.le_refl _
  intro v5 w5 hO5 hC5
  have hb5 : Below w1.heap.size w1 w5 := ((Below.refl _ _).drew).trans (hC5.below (B := w1.heap.size) (Nat.le_refl _) (fun i hi h => by have h2 : (none : Option Nat) = some i := h; cases h2))
  have BK5 := hid (BK.out.below' hb5)
  have HB5 := hid (held_next HB1.out hb5)
  have cD5 := hid (cD.out w5 v5 (Rd.of_owns (by simpa using hO5) rtEn_length) HB5.out)
  clear hS
  have hS : (w5.cell? ⟨W.heap.size, 0, none⟩ = some (.int .u64 (px : Int)) ∧ w5.cell? ⟨W.heap.size, 1, none⟩ = some (.int .u64 (py : Int)) ∧ w5.cell? ⟨W.heap.size, 2, none⟩ = some (.int .i64 pn)) := ⟨BK5.out.cellv (i := 0) rfl, BK5.out.cellv (i := 1) rfl, BK5.out.cellv (i := 2) rfl⟩
  clear hO5 hC5 hb5 cD
  refine hK.out _ _ hS ?_
  clear hK
  refine ord_alone 3 rfl (by kernel_rfl) rfl (fun K hK => ?_)
  go_simp
  refine (cD5.out).mono ?_
  rintro _ w6 ⟨v6, rfl, hO6, hb6⟩
  have HB6 := hid (held_next HB5.out hb6)
  have BK6 := hid (BK5.out.below' hb6)
  have HR6 := hid (Rd.of_owns hO6 chgEn_len)

  clear hO6 hb6
  clear hS
  have hS : (w6.cell? ⟨W.heap.size, 0, none⟩ = some (.int .u64 (px : Int)) ∧ w6.cell? ⟨W.heap.size, 1, none⟩ = some (.int .u64 (py : Int)) ∧ w6.cell? ⟨W.heap.size, 2, none⟩ = some (.int .i64 pn)) := ⟨BK6.out.cellv (i := 0) rfl, BK6.out.cellv (i := 1) rfl, BK6.out.cellv (i := 2) rfl⟩
  refine hK.out _ _ hS ?_
  clear hK
  refine ord_alone 6 rfl (by kernel_rfl) rfl (fun K hK => ?_)
  go_simp
  refine (cF.out w6 HB6.out).mono ?_
  rintro _ w7 ⟨v7, rfl, hO7, hb7⟩
  have HB7 := hid (held_next HB6.out hb7)
  have BK7 := hid (BK6.out.below' hb7)
  have HR7 := hid (Rd.of_owns hO7 chgEn_len)
  have HR6 := hid (HR6.out.below chgEn_len hb7)
  clear hO7 hb7
  clear hS
  have hS : (w7.cell? ⟨W.heap.size, 0, none⟩ = some (.int .u64 (px : Int)) ∧ w7.cell? ⟨W.heap.size, 1, none⟩ = some (.int .u64 (py : Int)) ∧ w7.cell? ⟨W.heap.size, 2, none⟩ = some (.int .i64 pn)) := ⟨BK7.out.cellv (i := 0) rfl, BK7.out.cellv (i := 1) rfl, BK7.out.cellv (i := 2) rfl⟩
  refine hK.out _ _ hS ?_
  clear hK
  refine ord_alone 7 rfl (by kernel_rfl) rfl (fun K hK => ?_)
  go_simp
  refine (same_true w7 v6 v7 D HR6.out HR7.out).mono ?_
  rintro _ w8 ⟨rfl, hb8⟩
  have HB8 := hid (held_next HB7.out hb8)
  have BK8 := hid (BK7.out.below' hb8)
  clear hb8
  clear hS
  have hS : (w8.cell? ⟨W.heap.size, 0, none⟩ = some (.int .u64 (px : Int)) ∧ w8.cell? ⟨W.heap.size, 1, none⟩ = some (.int .u64 (py : Int)) ∧ w8.cell? ⟨W.heap.size, 2, none⟩ = some (.int .i64 pn)) := ⟨BK8.out.cellv (i := 0) rfl, BK8.out.cellv (i := 1) rfl, BK8.out.cellv (i := 2) rfl⟩
  refine hK.out _ _ hS ?_
  clear hK
  refine ord_still 8 rfl (v := ?_) (by kernel_rfl) (fun _ _ _ h => h) rfl (fun W hW => ?_) hS ?_
  rotate_left
  · try dsimp only at hW
    go_simp
    try with_reducible rfl
  simp only [Act.put, List.setIfInBounds_toArray, List.set_cons_zero, List.set_cons_succ]
  refine ord_still 9 rfl (v := ?_) (by kernel_rfl) (fun _ _ _ h => h) rfl (fun W hW => ?_) hS ?_
  rotate_left
  · try dsimp only at hW
    go_simp
    try with_reducible rfl
  simp only [Act.put, List.setIfInBounds_toArray, List.set_cons_zero, List.set_cons_succ]
  refine ord_still 10 rfl (v := ?_) (by kernel_rfl) (fun _ _ _ h => h) rfl (fun W hW => ?_) hS ?_
  rotate_left
  · try dsimp only at hW
    go_simp
    try with_reducible rfl
  simp only [Act.put, List.setIfInBounds_toArray, List.set_cons_zero, List.set_cons_succ]
  refine ord_still 11 rfl (v := ?_) (by kernel_rfl) (fun _ _ _ h => h) rfl (fun W hW => ?_) hS ?_
  rotate_left
  · try dsimp only at hW
    go_simp
    try with_reducible rfl
  simp only [Act.put, List.setIfInBounds_toArray, List.set_cons_zero, List.set_cons_succ]
  refine ord_still 12 rfl (v := ?_) (by kernel_rfl) (fun _ _ _ h => h) rfl (fun W hW => ?_) hS ?_
  rotate_left
  · try dsimp only at hW
    go_simp
    try with_reducible rfl
  simp only [Act.put, List.setIfInBounds_toArray, List.set_cons_zero, List.set_cons_succ]
  refine ord_still 13 rfl (v := ?_) (by kernel_rfl) (fun _ _ _ h => h) rfl (fun W hW => ?_) hS ?_
  rotate_left
  · try dsimp only at hW
    go_simp
    try with_reducible rfl
  simp only [Act.put, List.setIfInBounds_toArray, List.set_cons_zero, List.set_cons_succ]
  refine ord_still 15 rfl (v := ?_) (by kernel_rfl) (fun _ _ _ h => h) rfl (fun W hW => ?_) hS ?_
  rotate_left
  · try dsimp only at hW
    go_simp
    try with_reducible rfl
  simp only [Act.put, List.setIfInBounds_toArray, List.set_cons_zero, List.set_cons_succ]
  refine ord_still 16 rfl (v := ?_) (by kernel_rfl) (fun _ _ _ h => h) rfl (fun W hW => ?_) hS ?_
  rotate_left
  · try dsimp only at hW
    go_simp
    try with_reducible rfl
  simp only [Act.put, List.setIfInBounds_toArray, List.set_cons_zero, List.set_cons_succ]
  refine ord_still 17 rfl (v := ?_) (by kernel_rfl) (fun _ _ _ h => h) rfl (fun W hW => ?_) hS ?_
  rotate_left
  · try dsimp only at hW
    go_simp
    try with_reducible rfl
  simp only [Act.put, List.setIfInBounds_toArray, List.set_cons_zero, List.set_cons_succ]
  refine ord_still 18 rfl (v := ?_) (by kernel_rfl) (fun _ _ _ h => h) rfl (fun W hW => ?_) hS ?_
  rotate_left
  · try dsimp only at hW
    go_simp
    try with_reducible rfl
  simp only [Act.put, List.setIfInBounds_toArray, List.set_cons_zero, List.set_cons_succ]
  refine ord_still 19 rfl (v := ?_) (by kernel_rfl) (fun _ _ _ h => h) rfl (fun W hW => ?_) hS ?_
  rotate_left
  · try dsimp only at hW
    go_simp
    try with_reducible rfl
  simp only [Act.put, List.setIfInBounds_toArray, List.set_cons_zero, List.set_cons_succ]
  refine ord_alone 14 rfl (by kernel_rfl) rfl (fun K hK => ?_)
  go_simp
  refine (cL.out w8 HB8.out).mono ?_
  rintro _ w9 ⟨v9, rfl, hO9, hb9⟩
  have HB9 := hid (held_next HB8.out hb9)
  have BK9 := hid (BK8.out.below' hb9)
  have HR9 := hid (Rd.of_owns hO9 chgEn_len)

  clear hO9 hb9
  clear hS
  have hS : (w9.cell? ⟨W.heap.size, 0, none⟩ = some (.int .u64 (px : Int)) ∧ w9.cell? ⟨W.heap.size, 1, none⟩ = some (.int .u64 (py : Int)) ∧ w9.cell? ⟨W.heap.size, 2, none⟩ = some (.int .i64 pn)) := ⟨BK9.out.cellv (i := 0) rfl, BK9.out.cellv (i := 1) rfl, BK9.out.cellv (i := 2) rfl⟩
  refine hK.out _ _ hS ?_
  clear hK
  refine ord_alone 20 rfl (by kernel_rfl) rfl (fun K hK => ?_)
  go_simp
  refine (cM.out w9 HB9.out).mono ?_
  rintro _ w10 ⟨v10, rfl, hO10, hb10⟩
  have HB10 := hid (held_next HB9.out hb10)
  have BK10 := hid (BK9.out.below' hb10)
  have HR10 := hid (Rd.of_owns hO10 chgEn_len)
  have HR9 := hid (HR9.out.below chgEn_len hb10)
  clear hO10 hb10
  clear hS
  have hS : (w10.cell? ⟨W.heap.size, 0, none⟩ = some (.int .u64 (px : Int)) ∧ w10.cell? ⟨W.heap.size, 1, none⟩ = some (.int .u64 (py : Int)) ∧ w10.cell? ⟨W.heap.size, 2, none⟩ = some (.int .i64 pn)) := ⟨BK10.out.cellv (i := 0) rfl, BK10.out.cellv (i := 1) rfl, BK10.out.cellv (i := 2) rfl⟩
  refine hK.out _ _ hS ?_
  clear hK
  refine ord_alone 21 rfl (by kernel_rfl) rfl (fun K hK => ?_)
  go_simp
  refine (same_true w10 v9 v10 E HR9.out HR10.out).mono ?_
  rintro _ w11 ⟨rfl, hb11⟩
  have HB11 := hid (held_next HB10.out hb11)
  have BK11 := hid (BK10.out.below' hb11)
  clear hb11
  clear hS
  have hS : (w11.cell? ⟨W.heap.size, 0, none⟩ = some (.int .u64 (px : Int)) ∧ w11.cell? ⟨W.heap.size, 1, none⟩ = some (.int .u64 (py : Int)) ∧ w11.cell? ⟨W.heap.size, 2, none⟩ = some (.int .i64 pn)) := ⟨BK11.out.cellv (i := 0) rfl, BK11.out.cellv (i := 1) rfl, BK11.out.cellv (i := 2) rfl⟩
  refine hK.out _ _ hS ?_
  clear hK
  refine ord_still 22 rfl (v := ?_) (by kernel_rfl) (fun _ _ _ h => h) rfl (fun W hW => ?_) hS ?_
  rotate_left
  · try dsimp only at hW
    go_simp
    try with_reducible rfl
  simp only [Act.put, List.setIfInBounds_toArray, List.set_cons_zero, List.set_cons_succ]
  refine ord_still 23 rfl (v := ?_) (by kernel_rfl) (fun _ _ _ h => h) rfl (fun W hW => ?_) hS ?_
  rotate_left
  · try dsimp only at hW
    go_simp
    try with_reducible rfl
  simp only [Act.put, List.setIfInBounds_toArray, List.set_cons_zero, List.set_cons_succ]
  refine ord_done (by kernel_rfl) ?_
  clear hS
  go_wp2_with fail
  go_ret
  exact ⟨rfl, HB11.out⟩

theorem deltaTells_walk (W : World) (v1 : Value) (l1 : List Rt) (R1 : Rd rtEn 4 W v1 l1) (ok1 : ∀ x ∈ l1, Rt.fit x) (v2 : Value) (l2 : List Rt) (R2 : Rd rtEn 4 W v2 l2) (ok2 : ∀ x ∈ l2, Rt.fit x) (p : Pf) (hp : p.fit) (hop : Int) (wo : (Lit.int .i64 hop).wf = true) (low : Int) (wl : (Lit.int .i64 low).wf = true) (high : Int) (wh : (Lit.int .i64 high).wf = true) :
    Calls Try.prog 8 #[v1, v2, .agg #[.int .u64 (p.1.1 : Int), .int .u64 (p.1.2 : Int), .int .i64 p.2], .int .i64 hop, .int .i64 low, .int .i64 high] W fun e W' => e = .returned (.bool true) ∧ Below W.heap.size W W' := by
  by_cases h : l1.length ≤ 30 ∧ l2.length ≤ 30
  · exact deltaTells_in W v1 l1 R1 v2 l2 R2 (fun r hr => (ok1 r hr).1.1) p hp.1 hop low high (wf_i64 wh) h.1 h.2
  · obtain ⟨A, cap, rfl, n1, m1⟩ := R1.form
    obtain ⟨B, cap2, rfl, n2, m2⟩ := R2.form
    exact deltaTells_out W A _ cap n1 m1 B _ cap2 n2 m2 p hop low high h

end Go.Proofs.Ytcchjljdhjkmeaa
