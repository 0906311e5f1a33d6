/-
  The contracts of what a number weighs: the program's and the document's. No condition.
-/
import Derived.Test.YtcnecjjgnnkjkaaGBase
import Derived.Test.YtcnecjjgnnkjkaaWeighM
import Derived.WalkLawsBesides
namespace Go.Proofs.Ytcnecjjgnnkjkaa
open Go.RowKit
set_option linter.unusedVariables false
set_option linter.unusedSimpArgs false
set_option maxRecDepth 100000

theorem isNaN (x : Nat) (w : World) : Calls Try.prog 30 #[.float .f64 x] w fun e w' => e = .returned (.bool (Ieee.double.read x).isNaN) ∧ Below w.heap.size w w' := by
  have h := ord_self x
  have hF : FloatKind.f64.format = Ieee.double := rfl
  go_enter Try.func30, Try.ntmps30
  cases hn : (Ieee.double.read x).isNaN with
  | true =>
    rw [hn, if_pos rfl] at h
    go_wp2_with fail
    go_ret
    exact ⟨rfl, Below.refl _ _⟩
  | false =>
    rw [hn, if_neg (by decide)] at h
    go_wp2_with fail
    go_ret
    exact ⟨rfl, Below.refl _ _⟩
theorem run_floor (x : Nat) (h : (Ieee.double.read x).isNaN = false) (w : World) : (callFunc 45 #[.float .f64 x]).run Try.prog w = .ok (.value (.float .f64 (Ieee.double.write ((Ieee.double.read x).integral .down)))) w := by
  rw [run_callFunc_extern (e := Extern.MathFloor.toIntegral "math.archFloor" .down) Try.func45 (by kernel_rfl) (by kernel_rfl) (by kernel_rfl) (by rfl)]
  show ((match FloatKind.f64.decode x with | .nan s t => _ | d => _ : Sem Value).run Try.prog w).andThen _ = _
  have hd : FloatKind.f64.decode x = Ieee.double.read x := rfl
  cases hx : Ieee.double.read x with
  | nan s t => rw [hx] at h; cases h
  | infinity s => simp only [hd, hx, Sem.run_pure, Result.andThen]; rfl
  | number s m i => simp only [hd, hx, Sem.run_pure, Result.andThen]; rfl
theorem floor (x : Nat) (h : (Ieee.double.read x).isNaN = false) (w : World) : Calls Try.prog 31 #[.float .f64 x] w fun e w' => e = .returned (.float .f64 (Ieee.double.write ((Ieee.double.read x).integral .down))) ∧ Below w.heap.size w w' := by
  have hf := run_floor x h
  go_enter Try.func31, Try.ntmps31
  go_wp2_with fail
  go_ret
  exact ⟨rfl, Below.refl _ _⟩
theorem run_min_x {P : Program} (ts : Array TypeId) (t : TypeId) (x y : Nat) (w : World) (h : Ieee.double.order x y = some .lt) : (Builtin.min_ ts t #[.float .f64 x, .float .f64 y]).run P w = .ok (.float .f64 x) w := by
  have hF : FloatKind.f64.format.order x y = some .lt := h
  simp [Builtin.min_, Builtin.min2, hF]
theorem run_min_y {P : Program} (ts : Array TypeId) (t : TypeId) (x y : Nat) (w : World) (h : Ieee.double.order x y = some .gt ∨ Ieee.double.order x y = some .eq ∧ (Ieee.double.read x).neg = false) : (Builtin.min_ ts t #[.float .f64 x, .float .f64 y]).run P w = .ok (.float .f64 y) w := by
  rcases h with h | ⟨h, h2⟩
  · have hF : FloatKind.f64.format.order x y = some .gt := h
    simp [Builtin.min_, Builtin.min2, hF]
  · have hF : FloatKind.f64.format.order x y = some .eq := h
    have hD : (FloatKind.f64.decode x).neg = false := h2
    simp [Builtin.min_, Builtin.min2, hF, hD]
set_option maxHeartbeats 1000000 in
theorem weight (x : Nat) (w : World) : Calls Try.prog 13 #[.float .f64 x] w fun e w' => e = .returned (.float .f64 (wd (wN x))) ∧ Below w.heap.size w w' := by
  have hF : FloatKind.f64.format = Ieee.double := rfl
  cases hn : (Ieee.double.read x).isNaN with
  | true =>
    have h0 := wN_nan hn
    have c1 := hid (isNaN x w)
    rw [hn] at c1
    rw [h0, wd_zero]
    clear h0 hn
    go_enter Try.func13, Try.ntmps13
    go_wp2_with fail
    refine c1.out.mono ?_
    rintro _ w1 ⟨rfl, hb⟩
    have HB := hid hb
    clear hb c1
    go_wp2_with fail
    go_ret
    exact ⟨rfl, HB.out⟩
  | false =>
    have c1 := hid (isNaN x w)
    rw [hn] at c1
    by_cases h0 : Ieee.double.order x 0 = some .gt
    · by_cases h1 : Ieee.double.order x c30 = some .lt
      · obtain ⟨d, hd, _, hfl⟩ := floor_lt h0 h1
        have cF := hid (fun w => floor x hn w)
        rw [hd, hfl] at cF
        have hm := fun ts t w => run_min_x (P := Try.prog) ts t x c30 w h1
        unfold c30 at hm
        clear h1 hn hfl hd
        generalize wd (wN x) = v at cF ⊢
        go_enter Try.func13, Try.ntmps13
        go_wp2_with fail
        refine c1.out.mono ?_
        rintro _ w1 ⟨rfl, hb⟩
        have HB := hid hb
        clear hb c1
        go_wp2_with fail
        refine (cF.out _).mono ?_
        rintro _ w2 ⟨rfl, hb⟩
        have HB2 := hid (held_next HB.out hb)
        clear hb cF
        go_wp2_with fail
        go_ret
        exact ⟨rfl, HB2.out⟩
      · have cF := hid (fun w => floor c30 (by decide +kernel) w)
        rw [floor_c30, ← floor_ge h0 h1] at cF
        have hm := fun ts t w => run_min_y (P := Try.prog) ts t x c30 w (by
          rcases ord_c30 h0 with h | h | h
          · exact absurd h h1
          · exact .inr ⟨h, pos_neg h0 h⟩
          · exact .inl h)
        unfold c30 at hm cF
        clear h1 hn
        generalize wd (wN x) = v at cF ⊢
        go_enter Try.func13, Try.ntmps13
        go_wp2_with fail
        refine c1.out.mono ?_
        rintro _ w1 ⟨rfl, hb⟩
        have HB := hid hb
        clear hb c1
        go_wp2_with fail
        refine (cF.out _).mono ?_
        rintro _ w2 ⟨rfl, hb⟩
        have HB2 := hid (held_next HB.out hb)
        clear hb cF
        go_wp2_with fail
        go_ret
        exact ⟨rfl, HB2.out⟩
    · rw [wN_no h0, wd_zero]
      have h2 : (Ieee.double.order x 0 == some .lt || Ieee.double.order x 0 == some .eq) = true := by
        rcases ord_0 hn with h | h | h
        · rw [h]; rfl
        · rw [h]; rfl
        · exact absurd h h0
      clear h0 hn
      go_enter Try.func13, Try.ntmps13
      go_wp2_with fail
      refine c1.out.mono ?_
      rintro _ w1 ⟨rfl, hb⟩
      have HB := hid hb
      clear hb c1
      go_wp2_with fail
      go_ret
      exact ⟨rfl, HB.out⟩
theorem run_int {P : Program} {x : Nat} (h0 : Ieee.double.order x 0 = some .gt) (h1 : Ieee.double.order x c30 ≠ some .gt) (a b : TypeId) (ha : (P.underlying a).isSome = true) (hb : P.underlying b = some (.int .i64)) (w : World) :
    (convert a b (.float .f64 x)).run P w = .ok (.int .i64 (wN x : Int)) w := by
  obtain ⟨e, hl⟩ := int_of h0 h1
  refine run_convert_float_int _ a b .f64 .i64 x (wN x : Int) ha hb ?_
  unfold floatToIntVal
  have hd : FloatKind.f64.decode x = Ieee.double.read x := rfl
  rw [hd, e]
  simp only
  rw [if_pos]
  constructor
  · show (-9223372036854775808 : Int) ≤ _; omega
  · show (_ : Int) ≤ 9223372036854775807; omega
theorem run_int_wd {P : Program} {n : Nat} (h : n < 2 ^ 53) (a b : TypeId) (ha : (P.underlying a).isSome = true) (hb : P.underlying b = some (.int .i64)) (w : World) :
    (convert a b (.float .f64 (wd n))).run P w = .ok (.int .i64 (n : Int)) w := by
  refine run_convert_float_int _ a b .f64 .i64 (wd n) (n : Int) ha hb ?_
  unfold floatToIntVal
  have hd : FloatKind.f64.decode (wd n) = Ieee.double.read (wd n) := rfl
  rw [hd, toInt_wd h]
  simp only
  rw [if_pos]
  constructor
  · show (-9223372036854775808 : Int) ≤ _; omega
  · show (_ : Int) ≤ 9223372036854775807; omega
theorem ref_weight (x : Nat) (w : World) : Calls Try.prog 16 #[.float .f64 x] w fun e w' => e = .returned (.int .i64 (wN x : Int)) ∧ Below w.heap.size w w' := by
  have hF : FloatKind.f64.format = Ieee.double := rfl
  by_cases h1 : Ieee.double.order x c30 = some .gt
  · have h2 : wN x = 2 ^ 30 := by unfold wN; rw [if_pos h1]
    rw [h2]
    unfold c30 at h1
    go_enter Try.func16, Try.ntmps16
    go_wp2_with fail
    go_ret
    exact ⟨rfl, Below.refl _ _⟩
  · have h3 : (Ieee.double.order x c30 == some .gt) = false := by rw [beq_eq_false_iff_ne]; exact h1
    by_cases h0 : Ieee.double.order x 0 = some .gt
    · have hc := fun w => run_int (P := Try.prog) h0 h1 23 3 (by kernel_rfl) Try.underlying3 w
      unfold c30 at h3
      clear h1
      generalize (wN x : Int) = v at hc ⊢
      go_enter Try.func16, Try.ntmps16
      go_wp2_with fail
      go_ret
      exact ⟨rfl, Below.refl _ _⟩
    · have h4 : (Ieee.double.order x 0 == some .gt) = false := by rw [beq_eq_false_iff_ne]; exact h0
      rw [wN_no h0]
      unfold c30 at h3
      clear h1 h0
      go_enter Try.func16, Try.ntmps16
      go_wp2_with fail
      go_ret
      exact ⟨rfl, Below.refl _ _⟩
end Go.Proofs.Ytcnecjjgnnkjkaa
