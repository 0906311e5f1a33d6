/-
  The walk of the law WeighTells: for all inputs it returns true and leaves memory alone. No condition.
-/
import Derived.Test.YtcnecjjgnnkjkaaWeighC
namespace Go.Proofs.Ytcnecjjgnnkjkaa
open Go.RowKit
set_option linter.unusedVariables false
set_option linter.unusedSimpArgs false
set_option maxRecDepth 100000

theorem weighTells_walk (W : World) (total : Int) (wt : (Lit.int .i64 total).wf = true) (least : Int) (wl : (Lit.int .i64 least).wf = true) (v : Value) (l : List Nat) (R : Rd flEn 1 W v l) (okl : ∀ x ∈ l, (Lit.float .f64 x).wf = true) (x : Nat) (wx : (Lit.float .f64 x).wf = true) :
    Calls Try.prog 3 #[.int .i64 total, .int .i64 least, v, .float .f64 x] W fun e W' => e = .returned (.bool true) ∧ Below W.heap.size W W' := by
  have HR := hid R
  have cA := hid (law10_alive W)
  have cN := hid (fun n w => law10_num n w)
  have cW := hid (fun w => weight x w)
  have cR := hid (fun w => ref_weight x w)
  have hwx := wN_le x
  have e1 := foi (wN x)
  have e2 : (Ieee.double.order (wd (wN x)) (wd (wN x)) == some .eq) = true := by rw [order_wd (by omega)]; rfl
  have e3 := fun t w => run_float_arith (P := Try.prog) w .add t .f64 _ _ _ (add_one hwx)
  obtain ⟨y, hy, hy0⟩ := one_div (m := wN x + 1) (by omega) (by omega)
  have e4 := fun t w => run_float_arith (P := Try.prog) w .quo t .f64 _ _ _ hy
  have e5 : (Ieee.double.order y 0 == some .gt) = true := by rw [hy0]; rfl
  have hF : FloatKind.f64.format = Ieee.double := rfl
  unfold c1f at e3 e4
  generalize wd (wN x + 1) = v1 at e3 e4
  obtain ⟨A, cap, rfl, n1, m1⟩ := R.form
  clear okl wx hy hy0 R wt wl
  by_cases h250 : l.length ≤ 250
  · have d1 : ¬ (250 : Int) < (l.length : Int) := by omega
    have HL := hid h250
    clear h250 n1 m1
    go_enter Try.func3, Try.ntmps3
    go_wp2_with fail
    refine cA.out.mono ?_
    rintro _ w1 ⟨rfl, hb⟩
    have HB1 := hid hb
    have HR1 := hid (HR.out.below flEn_len hb)
    clear hb
    go_wp2_with (at_builtin; refine wpList_append_rd rfl (.const (.slice none 0 0)) _ 22 rfl 23 _ 1 8 Try.underlying22 fl_row rfl (by decide) w1.heap.size _ 0 [] rfl (Owns.nil _ _ _ _) _ rfl l HR1.out flEn_len cells_fl ?c1 ?c2 ?c3 ?_)
    case c1 => have := HL.out; unfold maxLen; omega
    case c2 => have := HL.out; omega
    case c3 => exact Nat.le_refl _
    intro v2 w2 hO2 hC2
    have hb2 : Below w1.heap.size w1 w2 := hC2.below (Nat.le_refl _) (fun i _ h => by cases h)
    have HB2 := hid (held_next HB1.out hb2)
    have HR2 := hid (HR1.out.below flEn_len hb2)
    have cS := hid (weigh_all w2 v2 l (Rd.of_owns hO2 flEn_len) total least)
    obtain ⟨A2, cap2, rfl, _⟩ := hO2.form
    clear hO2 hC2 hb2 HR1 HB1
    have cT := hid (fun w v R => ref_all w v l R total least)
    unfold ShPost at cS cT
    have cM := hid (fun (w : World) (v1 v2 : Value) h1 h2 => ref_sameInts_eq w v1 v2 (shOut total least l) h1 h2)
    generalize shOut total least l = out at cS cT cM
    generalize shErr total least l = er at cS cT
    go_wp2_with fail
    refine cS.out.mono ?_
    rintro _ w3 ⟨⟨vo, rfl, hO3⟩, hb⟩
    have HI3 := hid (RI.of_owns hO3)
    have HB3 := hid (held_next HB2.out hb)
    have HR3 := hid (HR2.out.below flEn_len hb)
    obtain ⟨A3, cap3, rfl, _⟩ := hO3.form
    clear hO3 hb HB2 HR2 cS
    go_wp2_with fail
    refine (cT.out _ _ HR3.out).mono ?_
    rintro _ w4 ⟨⟨vo, rfl, hO4⟩, hb⟩
    have HI4 := hid (RI.of_owns hO4)
    have HI3' := hid (HI3.out.below hb)
    have HB4 := hid (held_next HB3.out hb)
    obtain ⟨A4, cap4, rfl, _⟩ := hO4.form
    clear hO4 hb HB3 HR3 HI3 cT
    go_wp2_with fail
    refine (cW.out _).mono ?_
    rintro _ w5 ⟨rfl, hb⟩
    have HI5 := hid (HI3'.out.below hb)
    have HI6 := hid (HI4.out.below hb)
    have HB5 := hid (held_next HB4.out hb)
    clear hb HI3' HI4 HB4
    go_wp2_with fail
    refine (cM.out _ _ _ HI5.out HI6.out).mono ?_
    rintro _ w6 ⟨rfl, hb⟩
    have HB6 := hid (held_next HB5.out hb)
    clear hb HB5
    go_wp2_with fail
    refine (cN.out _ _).mono ?_
    rintro _ w7 ⟨rfl, rfl⟩
    go_wp2_with fail
    refine (cR.out _).mono ?_
    rintro _ w7 ⟨rfl, hb⟩
    have HB7 := hid (held_next HB6.out hb)
    clear hb HB6
    go_wp2_with fail
    go_ret
    exact ⟨rfl, HB7.out⟩
  · have d1 : (250 : Int) < (l.length : Int) := by omega
    go_enter Try.func3, Try.ntmps3
    go_wp2_with fail
    refine cA.out.mono ?_
    rintro _ w1 ⟨rfl, hb⟩
    have HB1 := hid hb
    clear hb
    go_wp2_with fail
    go_ret
    exact ⟨rfl, HB1.out⟩
end Go.Proofs.Ytcnecjjgnnkjkaa
