/-
  The walk of the law PickTells: for all inputs it returns true and leaves memory alone. No condition.
-/
import Derived.Test.YtgmknnmcanbfeaaRefPick
import Derived.Test.YtgmknnmcanbfeaaPickBelow
import Derived.Deep.RegionHeld3
namespace Go.Proofs.Ytgmknnmcanbfeaa
open Go.RowKit
set_option linter.unusedVariables false
set_option linter.unusedSimpArgs false
set_option maxRecDepth 100000

theorem pickTells_walk (W : World) (x0 : Int) (wx : (Lit.int .u64 x0).wf = true) (m : Int) (wm : (Lit.int .i64 m).wf = true) (s0 : Int) (ws : (Lit.int .u64 s0).wf = true) (p : Pf) (hp : p.1.ok) (k : Int) (wk : (Lit.int .i64 k).wf = true) (n : Int) (wn : (Lit.int .i64 n).wf = true) :
    Calls Try.prog 11 #[.int .u64 x0, .int .i64 m, .int .u64 s0, .agg #[.int .u64 (p.1.1 : Int), .int .u64 (p.1.2 : Int), .int .i64 p.2], .int .i64 k, .int .i64 n] W fun e W' => e = .returned (.bool true) ∧ Below W.heap.size W W' := by
  simp [Lit.wf, IntKind.min, IntKind.max, IntKind.signed, IntKind.bits] at wx ws wm wn
  obtain ⟨x, rfl⟩ := Int.eq_ofNat_of_zero_le wx.1
  obtain ⟨s, rfl⟩ := Int.eq_ofNat_of_zero_le ws.1
  have hx : x < 2 ^ 64 := by omega
  have hs : s < 2 ^ 64 := by omega
  have a1 := hid fun w => pick_buckets s hs p hp n (by omega) w
  have a2 := hid fun w => ref_buckets s hs p hp n (by omega) w
  have a3 := hid fun w => pick_reduce x hx m (by omega) w
  have a4 := hid fun w => ref_reduce x hx m (by omega) w
  have a5 := hid fun w => pick_places s hs p hp k m (by omega) w
  have a6 := hid fun w => ref_places s hs p hp k m (by omega) w
  generalize redI (mixN (hashN s p ^^^ 1)) n = r1 at a1 a2
  generalize redI (mixN (hashN s p ^^^ 2)) n = r2 at a1 a2
  generalize redI x m = r3 at a3 a4
  generalize placesN s p k m = l at a5 a6
  clear wx ws wm wn wk hx hs
  obtain ⟨⟨a, b⟩, n1⟩ := p
  go_enter Try.func11, Try.ntmps11
  go_wp2_with fail
  refine (pick_alive _).mono ?_
  rintro _ w1 ⟨rfl, hb1⟩
  have BP := hid ((Blk.new_at W #[.int .u64 (a : Int), .int .u64 (b : Int), .int .i64 n1] 32 W.heap.size rfl).below' hb1)
  have hB : Below W.heap.size W w1 := Below.trans (b := _) ((Below.refl _ _).alloc (Nat.le_refl _) _) (hb1.mono (by simp))
  have HB := hid hB
  clear hB hb1
  have s0 := BP.out.cellv (i := 0) rfl
  have s1 := BP.out.cellv (i := 1) rfl
  have s2 := BP.out.cellv (i := 2) rfl
  go_wp2_with fail
  refine (a1.out _).mono ?_
  rintro _ w2 ⟨rfl, hb2⟩
  have BP2 := hid (BP.out.below' hb2)
  have HB2 := hid (held_next HB.out hb2)
  clear BP HB s0 s1 s2 hb2
  have s0 := BP2.out.cellv (i := 0) rfl
  have s1 := BP2.out.cellv (i := 1) rfl
  have s2 := BP2.out.cellv (i := 2) rfl
  go_wp2_with fail
  refine (a2.out _).mono ?_
  rintro _ w3 ⟨rfl, hb3⟩
  have BP3 := hid (BP2.out.below' hb3)
  have HB3 := hid (held_next HB2.out hb3)
  clear BP2 HB2 s0 s1 s2 hb3
  have s0 := BP3.out.cellv (i := 0) rfl
  have s1 := BP3.out.cellv (i := 1) rfl
  have s2 := BP3.out.cellv (i := 2) rfl
  have hB3 : Below w3.heap.size w3 w3.drew := (Below.refl _ _).drew
  go_wp2_with fail
  go_region_held3 (fun w' => Below w3.heap.size w3 w' ∧ w'.cell? ⟨W.heap.size, 0, none⟩ = some (.int .u64 (a : Int)) ∧ w'.cell? ⟨W.heap.size, 1, none⟩ = some (.int .u64 (b : Int)) ∧ w'.cell? ⟨W.heap.size, 2, none⟩ = some (.int .i64 n1)) (go_keep)
    (first
      | ((with_reducible refine (a3.out _).mono ?_); rintro _ w' ⟨rfl, rfl⟩)
      | ((with_reducible refine (a4.out _).mono ?_); rintro _ w' ⟨rfl, rfl⟩)
      | ((with_reducible refine (a5.out _).mono ?_); rintro _ w' ⟨v5, rfl, hO, hb⟩; have hB4 : Below w3.heap.size w3 w' := held_next (by assumption) hb; have k0 := (BP3.out.below' hB4).cellv (i := 0) rfl; have k1 := (BP3.out.below' hB4).cellv (i := 1) rfl; have k2 := (BP3.out.below' hB4).cellv (i := 2) rfl; have R5 := hid (RI.of_owns hO); clear hO)
      | ((with_reducible refine (a6.out _).mono ?_); rintro _ w' ⟨v6, rfl, hO, hb⟩; have hB5 : Below w3.heap.size w3 w' := held_next (by assumption) hb; have k0 := (BP3.out.below' hB5).cellv (i := 0) rfl; have k1 := (BP3.out.below' hB5).cellv (i := 1) rfl; have k2 := (BP3.out.below' hB5).cellv (i := 2) rfl; have R6 := hid (RI.of_owns hO); have R5' := hid (R5.out.below hb); clear hO)
      | (go_at_call 40; refine (ref_sameInts_eq _ v5 v6 l R5'.out R6.out).mono ?_; rintro _ w' ⟨rfl, hb⟩; have hB6 : Below w3.heap.size w3 w' := held_next (by assumption) hb; have k0 := (BP3.out.below' hB6).cellv (i := 0) rfl; have k1 := (BP3.out.below' hB6).cellv (i := 1) rfl; have k2 := (BP3.out.below' hB6).cellv (i := 2) rfl))
  all_goals go_wp2_with fail
  all_goals go_ret
  all_goals exact ⟨rfl, held_next HB3.out (by assumption)⟩

end Go.Proofs.Ytgmknnmcanbfeaa
