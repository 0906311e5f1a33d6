/-
  The law CoverTells: what any level holds of any routes, and which hop any key has. No condition.
-/
import Derived.Test.YtcchjljdhjkmeaaCoverLaw
import Derived.Test.YtcchjljdhjkmeaaRefSet
namespace Go.Proofs.Ytcchjljdhjkmeaa
open Go.RowKit
set_option linter.unusedVariables false
set_option linter.unusedSimpArgs false
set_option maxRecDepth 100000

theorem coverTells_out (W : World) (A : Option Addr) (n cap : Nat) (hn : n ≤ cap) (hc : cap ≤ maxLen) (k : Pf) (low high : Int) (h : ¬ n ≤ 40) :
    Calls Try.prog 7 #[.slice A n cap, .agg #[.int .u64 (k.1.1 : Int), .int .u64 (k.1.2 : Int), .int .i64 k.2], .int .i64 low, .int .i64 high] W fun e W' => e = .returned (.bool true) ∧ Below W.heap.size W W' := by
  unfold maxLen at hc
  obtain ⟨⟨kx, ky⟩, kn⟩ := k
  have c1 : (n : Int) > 40 := by omega
  clear h
  go_enter Try.func7, Try.ntmps7
  go_wp2_with fail
  refine (cover_alive _).mono ?_
  rintro _ w1 ⟨rfl, hb⟩
  have HB := hid (((Below.refl W.heap.size W).alloc (Nat.le_refl _) (.cells #[.int .u64 (kx : Int), .int .u64 (ky : Int), .int .i64 kn] 37)).trans (hb.mono (by simp)))
  clear hb
  go_wp2_with fail
  go_ret
  exact ⟨rfl, HB.out⟩

set_option maxHeartbeats 2000000 in
theorem coverTells_in (W : World) (v : Value) (l : List Rt) (R : Rd rtEn 4 W v l) (hok : ∀ r ∈ l, r.1.1.ok) (k : Pf) (hk : k.1.ok) (low high : Int) (wh : -9223372036854775808 ≤ high ∧ high ≤ 9223372036854775807) (h1 : l.length ≤ 40) :
    Calls Try.prog 7 #[v, .agg #[.int .u64 (k.1.1 : Int), .int .u64 (k.1.2 : Int), .int .i64 k.2], .int .i64 low, .int .i64 high] W fun e W' => e = .returned (.bool true) ∧ Below W.heap.size W W' := by
  have HR := hid R
  have cHop := hid (fun (w' : World) (v' : Value) (h : Rd rtEn 4 w' v' l) => cover_hop w' v' l h hok (by omega) k hk low)
  have cRef := hid (fun (w' : World) (h : Below W.heap.size W w') => ref_hop w' v l (R.below rtEn_length h) (by omega) hok k hk low)
  have cSet := hid (fun (w' : World) (v' : Value) (h : Rd rtEn 4 w' v' l) => cover_set w' v' l h hok (by omega) low high)
  have cRSet := hid (fun (w' : World) (h : Below W.heap.size W w') => ref_set w' v l (R.below rtEn_length h) hok (by omega) low high wh)
  have HE := hid (show hopV l k low = atV (ofM l) k low from rfl)
  unfold HopPost at cRef
  unfold AtPost at cHop
  rw [HE.out] at cRef
  generalize (atV (ofM l) k low).getD 0 = hop at cHop cRef
  generalize (atV (ofM l) k low).isSome = is at cHop cRef
  generalize setL l low high = S at cSet cRSet
  clear HE hok R
  obtain ⟨A, cap, rfl, n1, m1⟩ := HR.out.form
  unfold maxLen at m1
  obtain ⟨n, hn⟩ : ∃ n, l.length = n := ⟨_, rfl⟩
  have HN := hid hn
  rw [hn] at HR cRef cRSet n1 h1 ⊢
  clear hn
  obtain ⟨⟨kx, ky⟩, kn⟩ := k
  simp only at cHop cRef hk
  have c1 : ¬ (n : Int) > 40 := by omega
  go_enter Try.func7, Try.ntmps7
  go_wp2_with fail
  refine (cover_alive _).mono ?_
  rintro _ w1 ⟨rfl, hb⟩
  have BK := hid ((Blk.new W [.int .u64 (kx : Int), .int .u64 (ky : Int), .int .i64 kn] 37).below' hb)
  have HB1 := hid (((Below.refl W.heap.size W).alloc (Nat.le_refl _) (.cells #[.int .u64 (kx : Int), .int .u64 (ky : Int), .int .i64 kn] 37)).trans (hb.mono (by simp)))
  clear hb
  go_wp2_with fail
  have hS : (w1.drew.cell? ⟨W.heap.size, 0, none⟩ = some (.int .u64 (kx : Int)) ∧ w1.drew.cell? ⟨W.heap.size, 1, none⟩ = some (.int .u64 (ky : Int)) ∧ w1.drew.cell? ⟨W.heap.size, 2, none⟩ = some (.int .i64 kn)) := ⟨BK.out.cellv (i := 0) rfl, BK.out.cellv (i := 1) rfl, BK.out.cellv (i := 2) rfl⟩
  refine wp_region_ord (fun w' => (w'.cell? ⟨W.heap.size, 0, none⟩ = some (.int .u64 (kx : Int)) ∧ w'.cell? ⟨W.heap.size, 1, none⟩ = some (.int .u64 (ky : Int)) ∧ w'.cell? ⟨W.heap.size, 2, none⟩ = some (.int .i64 kn))) (by kernel_rfl) hS ?_
  refine ord_still 0 rfl (v := ?_) (by kernel_rfl) (fun _ _ _ h => h) rfl (fun W hW => ?_) hS ?_
  rotate_left
  · try dsimp only at hW
    go_simp
    try with_reducible rfl
  simp only [Act.put, List.setIfInBounds_toArray, List.set_cons_zero, List.set_cons_succ]
  refine ord_still 2 rfl (v := ?_) (by kernel_rfl) (fun _ _ _ h => h) rfl (fun W hW => ?_) hS ?_
  rotate_left
  · try dsimp only at hW
    go_simp
    try with_reducible rfl
  simp only [Act.put, List.setIfInBounds_toArray, List.set_cons_zero, List.set_cons_succ]
  refine ord_still 3 rfl (v := ?_) (by kernel_rfl) (fun _ _ _ h => h) rfl (fun W hW => ?_) hS ?_
  rotate_left
  · try dsimp only at hW
    go_simp
    try with_reducible rfl
  simp only [Act.put, List.setIfInBounds_toArray, List.set_cons_zero, List.set_cons_succ]
  refine ord_alone 1 rfl (by kernel_rfl) rfl (fun K hK => ?_)
  refine wp_append_rd (.const (.slice none 0 0)) _ 22 rfl 39 _ 4 32 Try.underlying22 rt_row rfl (by decide) w1.drew.heap.size _ 0 [] rfl (Owns.nil _ _ _ _) _ rfl l (HR.out.below rtEn_length HB1.out.drew) rtEn_length cells_rt ?_ ?_ ?_ ?_
  · rw [HN.out]; unfold maxLen; omega
  · rw [HN.out]; omega
  · exact Nat.le_refl _
  intro v5 w5 hO5 hC5
  have hb5 : Below w1.heap.size w1 w5 := ((Below.refl _ _).drew).trans (hC5.below (B := w1.heap.size) (Nat.le_refl _) (fun i hi h => by have h2 : (none : Option Nat) = some i := h; cases h2))
  have BK5 := hid (BK.out.below' hb5)
  have HB5 := hid (held_next HB1.out hb5)
  have cH5 := hid (cHop.out w5 v5 (Rd.of_owns (by simpa using hO5) rtEn_length))
  clear hS
  have hS : (w5.cell? ⟨W.heap.size, 0, none⟩ = some (.int .u64 (kx : Int)) ∧ w5.cell? ⟨W.heap.size, 1, none⟩ = some (.int .u64 (ky : Int)) ∧ w5.cell? ⟨W.heap.size, 2, none⟩ = some (.int .i64 kn)) := ⟨BK5.out.cellv (i := 0) rfl, BK5.out.cellv (i := 1) rfl, BK5.out.cellv (i := 2) rfl⟩
  clear hO5 hC5 hb5
  refine hK.out _ _ hS ?_
  clear hK
  refine ord_alone 4 rfl (by kernel_rfl) rfl (fun K hK => ?_)
  go_simp
  refine (cH5.out).mono ?_
  rintro _ w6 ⟨rfl, hb6⟩
  have BK6 := hid (BK5.out.below' hb6)
  have HB6 := hid (held_next HB5.out hb6)
  clear hb6
  clear hS
  have hS : (w6.cell? ⟨W.heap.size, 0, none⟩ = some (.int .u64 (kx : Int)) ∧ w6.cell? ⟨W.heap.size, 1, none⟩ = some (.int .u64 (ky : Int)) ∧ w6.cell? ⟨W.heap.size, 2, none⟩ = some (.int .i64 kn)) := ⟨BK6.out.cellv (i := 0) rfl, BK6.out.cellv (i := 1) rfl, BK6.out.cellv (i := 2) rfl⟩
  refine hK.out _ _ hS ?_
  clear hK
  refine ord_still 5 rfl (v := ?_) (by kernel_rfl) (fun _ _ _ h => h) rfl (fun W hW => ?_) hS ?_
  rotate_left
  · try dsimp only at hW
    go_simp
    try with_reducible rfl
  simp only [Act.put, List.setIfInBounds_toArray, List.set_cons_zero, List.set_cons_succ]
  refine ord_still 6 rfl (v := ?_) (by kernel_rfl) (fun _ _ _ h => h) rfl (fun W hW => ?_) hS ?_
  rotate_left
  · try dsimp only at hW
    go_simp
    try with_reducible rfl
  simp only [Act.put, List.setIfInBounds_toArray, List.set_cons_zero, List.set_cons_succ]
  refine ord_still 7 rfl (v := ?_) (by kernel_rfl) (fun _ _ _ h => h) rfl (fun W hW => ?_) hS ?_
  rotate_left
  · try dsimp only at hW
    go_simp
    try with_reducible rfl
  simp only [Act.put, List.setIfInBounds_toArray, List.set_cons_zero, List.set_cons_succ]
  refine ord_still 8 rfl (v := ?_) (by kernel_rfl) (fun _ _ _ h => h) rfl (fun W hW => ?_) hS ?_
  rotate_left
  · try dsimp only at hW
    go_simp
    try with_reducible rfl
  simp only [Act.put, List.setIfInBounds_toArray, List.set_cons_zero, List.set_cons_succ]
  refine ord_still 9 rfl (v := ?_) (by kernel_rfl) (fun _ _ _ h => h) rfl (fun W hW => ?_) hS ?_
  rotate_left
  · try dsimp only at hW
    go_simp
    try with_reducible rfl
  simp only [Act.put, List.setIfInBounds_toArray, List.set_cons_zero, List.set_cons_succ]
  refine ord_done (by kernel_rfl) ?_
  clear hS
  have cR6 := hid (cRef.out _ HB6.out)
  have p0 := BK6.out.cellv (i := 0) rfl
  have p1 := BK6.out.cellv (i := 1) rfl
  have p2 := BK6.out.cellv (i := 2) rfl
  clear cRef cHop
  go_wp2_with fail
  refine cR6.out.mono ?_
  rintro _ w7 ⟨rfl, hb7⟩
  have HB7 := hid (held_next HB6.out hb7)
  have HR7 := hid (HR.out.below rtEn_length HB7.out)
  clear hb7 cR6 p0 p1 p2
  go_wp2_with (at_builtin; refine wpList_append_rd rfl (.const (.slice none 0 0)) _ 22 rfl 39 _ 4 32 Try.underlying22 rt_row rfl (by decide) w7.heap.size _ 0 [] rfl (Owns.nil _ _ _ _) _ rfl l HR7.out rtEn_length cells_rt ?c1 ?c2 ?c3 ?_)
  case c1 => rw [HN.out]; unfold maxLen; omega
  case c2 => rw [HN.out]; omega
  case c3 => omega
  intro v8 w8 hO8 hC8
  have hb8 : Below w7.heap.size w7 w8 := hC8.below (Nat.le_refl _) (fun i hi h => by simp [Value.ownBlock] at h)
  have HB8 := hid (held_next HB7.out hb8)
  have cS8 := hid (cSet.out w8 v8 (Rd.of_owns (by simpa using hO8) rtEn_length))
  clear hO8 hC8 hb8 cSet
  go_wp2_with fail
  refine cS8.out.mono ?_
  rintro _ w9 ⟨v9, rfl, hO9, hb9⟩
  have HB9 := hid (held_next HB8.out hb9)
  have HR9 := hid hO9.rd
  have cT9 := hid (cRSet.out _ HB9.out)
  clear hO9 hb9 cS8 cRSet
  go_wp2_with fail
  refine cT9.out.mono ?_
  rintro _ w10 ⟨v10, rfl, hO10, hb10⟩
  have HB10 := hid (held_next HB9.out hb10)
  have cE := hid (ref_sameRts w10 v9 v10 S S (HR9.out.below rtEn_length hb10) hO10.rd true (by simp))
  clear hO10 hb10 cT9
  go_wp2_with fail
  refine cE.out.mono ?_
  rintro _ w11 ⟨rfl, hb11⟩
  have HB11 := hid (held_next HB10.out hb11)
  clear hb11 cE
  go_wp2_with fail
  go_ret
  exact ⟨rfl, HB11.out⟩

theorem coverTells_walk (W : World) (v : Value) (l : List Rt) (R : Rd rtEn 4 W v l) (ok : ∀ x ∈ l, Rt.fit x) (k : Pf) (hk : k.fit) (low : Int) (wl : (Lit.int .i64 low).wf = true) (high : Int) (wh : (Lit.int .i64 high).wf = true) :
    Calls Try.prog 7 #[v, .agg #[.int .u64 (k.1.1 : Int), .int .u64 (k.1.2 : Int), .int .i64 k.2], .int .i64 low, .int .i64 high] W fun e W' => e = .returned (.bool true) ∧ Below W.heap.size W W' := by
  by_cases h : l.length ≤ 40
  · exact coverTells_in W v l R (fun r hr => (ok r hr).1.1) k hk.1 low high (wf_i64 wh) h
  · obtain ⟨A, cap, rfl, n1, m1⟩ := R.form
    exact coverTells_out W A _ cap n1 m1 k low high h

end Go.Proofs.Ytcchjljdhjkmeaa
