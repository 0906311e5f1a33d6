/-
  Package bucket's example, alive, of the law's package 11: it answers true and leaves memory alone. No condition.
-/
import Derived.Test.YtgmknnmcanbfeaaBuckAll
namespace Go.Proofs.Ytgmknnmcanbfeaa
open Go.RowKit
set_option linter.unusedVariables false
set_option linter.unusedSimpArgs false
set_option maxRecDepth 100000

def plc0 : Plc := (false, ((0, 0), 0), 0)
theorem buck_alive (w : World) : Calls Try.prog 43 #[] w fun e w' => e = .returned (.bool true) ∧ Below w.heap.size w w' := by
  have H0 : Buck (w.alloc (.cells (([plc0, plc0, plc0, plc0].flatMap plcEn).toArray) 64)) w.heap.size [plc0, plc0, plc0, plc0] := ⟨Blk.new_at w _ 64 _ rfl, rfl⟩
  have hb0 : Below w.heap.size w (w.alloc (.cells (([plc0, plc0, plc0, plc0].flatMap plcEn).toArray) 64)) := (Below.refl _ _).alloc (Nat.le_refl _) _
  have c0 := buck_all H0
  have HC0 := hid c0
  have HH0 := hid H0
  have HB0 := hid hb0
  clear c0 H0 hb0
  go_enter Try.func43, Try.ntmps43
  go_wp2_with fail
  refine HC0.out.mono ?_
  rintro e w1 ⟨v, rfl, hO, hb1⟩
  obtain ⟨A, cap, rfl, -, -, -⟩ := hO.form
  have hn : (allP [plc0, plc0, plc0, plc0]).length = 0 := by decide
  rw [hn]
  have HB1 : Buck w1 w.heap.size [plc0, plc0, plc0, plc0] := HH0.out.below hb1
  have hc1 : Below w.heap.size w w1 := HB0.out.trans (hb1.mono HB0.out.size)
  have HC1 := hid hc1
  clear hO hb1 HH0 HB0 HC0 hc1 hn
  have c1 := buck_put HB1 ((0, 0), 4) 7
  have HC := hid c1
  clear c1
  go_wp2_with fail
  refine HC.out.mono ?_
  rintro e w2 ⟨rfl, H2, hc2⟩
  have hd : decide (0 ≤ putI [plc0, plc0, plc0, plc0] ((0, 0), 4)) = true := by decide
  rw [hd]
  have hps : (if 0 ≤ putI [plc0, plc0, plc0, plc0] ((0, 0), 4) then [plc0, plc0, plc0, plc0].set (putI [plc0, plc0, plc0, plc0] ((0, 0), 4)).toNat (true, ((0, 0), 4), 7) else [plc0, plc0, plc0, plc0]) = [(true, ((0, 0), 4), 7), plc0, plc0, plc0] := by decide
  rw [hps] at H2
  have hb2 : Below w.heap.size w w2 := HC1.out.trans (hc2.below HC1.out.size (by omega))
  have HB2 := hid hb2
  have c2 := buck_get H2 ((0, 0), 4)
  have e1 : valP [(true, ((0, 0), 4), 7), plc0, plc0, plc0] ((0, 0), 4) = 7 := by decide
  have e2 : decide (0 ≤ findP [(true, ((0, 0), 4), 7), plc0, plc0, plc0] ((0, 0), 4) 0) = true := by decide
  rw [e1, e2] at c2
  have HC2 := hid c2
  clear hd hps hb2 c2 e1 e2 HC hc2
  go_wp2_with fail
  refine HC2.out.mono ?_
  rintro e w3 ⟨rfl, hb3⟩
  go_wp2_with fail
  go_ret
  exact ⟨rfl, HB2.out.trans (hb3.mono HB2.out.size)⟩
end Go.Proofs.Ytgmknnmcanbfeaa
