/-
  The walks of the laws SpreadTells and SpreadHalves, and of the example of package spread: for all inputs they return true and leave memory alone. No condition.
-/
import Derived.Test.YtjhgmjfjlndomaaRefKeys
import Derived.Test.YtjhgmjfjlndomaaSame
namespace Go.Proofs.Ytjhgmjfjlndomaa
open Go.RowKit
set_option linter.unusedVariables false
set_option linter.unusedSimpArgs false
set_option maxRecDepth 100000

theorem OwnPfs.rd {w w' : World} {l : List Pf} {v : Value} (h : OwnPfs w l w' v) : Rd pfEn 3 w' v l := Rd.of_owns h pfEn_len
theorem OwnPfs.form {w w' : World} {l : List Pf} {v : Value} (h : OwnPfs w l w' v) : ∃ A cap, v = .slice A l.length cap := let ⟨A, c, h1, _⟩ := Owns.form h; ⟨A, c, h1⟩

theorem spread_alive (w : World) : Calls Try.prog 15 #[] w fun e w' => e = .returned (.bool true) ∧ Below w.heap.size w w' := by
  have ok0 : Ad.ok (0, 0) := ⟨by decide, by decide⟩
  have e1 : (keysP ((0, 0), 0) 0).length = 1 := by decide
  have e2 : (keysP ((0, 0), 0) 1).length = 2 := by decide
  have c1 := hid fun w => spread_count ((0, 0), 0) ok0 0 w
  have c2 := hid fun w => spread_keys ((0, 0), 0) ok0 1 w
  rw [e1] at c1
  have E2 := hid e2
  generalize keysP ((0, 0), 0) 1 = l at c2 E2
  clear e1 e2 ok0
  go_enter Try.func15, Try.ntmps15
  go_wp2_with fail
  refine (c1.out _).mono ?_
  rintro _ w1 ⟨rfl, hb1⟩
  go_wp2_with fail
  refine (c2.out _).mono ?_
  rintro _ w2 ⟨v, rfl, hO, hb2⟩
  obtain ⟨A, cap, rfl⟩ := hO.form
  rw [E2.out]
  go_wp2_with fail
  go_ret
  exact ⟨rfl, held_next hb1 hb2⟩

theorem spreadTells_walk (W : World) (p : Pf) (hp : p.fit) (n : Int) (wn : (Lit.int .i64 n).wf = true) :
    Calls Try.prog 3 #[.agg #[.int .u64 (p.1.1 : Int), .int .u64 (p.1.2 : Int), .int .i64 p.2], .int .i64 n] W fun e W' => e = .returned (.bool true) ∧ Below W.heap.size W W' := by
  have hn := wf_i64 wn
  have c1 := hid fun w => ref_keys p hp.1 n hn w
  have c2 := hid fun w => spread_keys p hp.1 n w
  have c3 := hid fun w => spread_count p hp.1 n w
  generalize keysP p n = l at c1 c2 c3
  clear hn wn hp
  obtain ⟨⟨a, b⟩, m⟩ := p
  go_enter Try.func3, Try.ntmps3
  go_wp2_with fail
  refine (spread_alive _).mono ?_
  rintro _ w1 ⟨rfl, hb1⟩
  have BP := hid ((Blk.new_at W #[.int .u64 (a : Int), .int .u64 (b : Int), .int .i64 m] 26 W.heap.size rfl).below' hb1)
  have HB := hid (Below.trans (b := _) ((Below.refl W.heap.size W).alloc (Nat.le_refl _) _) (hb1.mono (by simp)))
  clear hb1
  have s0 := BP.out.cellv (i := 0) rfl
  have s1 := BP.out.cellv (i := 1) rfl
  have s2 := BP.out.cellv (i := 2) rfl
  go_wp2_with fail
  refine (c1.out _).mono ?_
  rintro _ w2 ⟨v2, rfl, hO2, hb2⟩
  have BP2 := hid (BP.out.below' hb2)
  have HB2 := hid (held_next HB.out hb2)
  have HR2 := hid hO2.rd
  clear BP HB s0 s1 s2 hb2 hO2
  have s0 := BP2.out.cellv (i := 0) rfl
  have s1 := BP2.out.cellv (i := 1) rfl
  have s2 := BP2.out.cellv (i := 2) rfl
  go_wp2_with fail
  refine (c2.out _).mono ?_
  rintro _ w3 ⟨v3, rfl, hO3, hb3⟩
  have BP3 := hid (BP2.out.below' hb3)
  have HB3 := hid (held_next HB2.out hb3)
  have HR3 := hid hO3.rd
  have HR2' := hid (HR2.out.below pfEn_len hb3)
  clear BP2 HB2 s0 s1 s2 hb3 hO3 HR2
  go_wp2_with fail
  refine (ref_samePfs _ v3 v2 l l HR3.out HR2'.out true (by simp)).mono ?_
  rintro _ w4 ⟨rfl, hb4⟩
  have BP4 := hid (BP3.out.below' hb4)
  have HB4 := hid (held_next HB3.out hb4)
  obtain ⟨A2, cap2, rfl, _, _⟩ := HR2'.out.form
  clear BP3 HB3 hb4 HR3 HR2'
  have s0 := BP4.out.cellv (i := 0) rfl
  have s1 := BP4.out.cellv (i := 1) rfl
  have s2 := BP4.out.cellv (i := 2) rfl
  go_wp2_with fail
  refine (c3.out _).mono ?_
  rintro _ w5 ⟨rfl, hb5⟩
  have HB5 := hid (held_next HB4.out hb5)
  clear hb5 s0 s1 s2
  go_wp2_with fail
  go_ret
  exact ⟨rfl, HB5.out⟩

end Go.Proofs.Ytjhgmjfjlndomaa
