/-
  The walk of the law WeighEdges: for all inputs it returns true and leaves memory alone. No condition.
-/
import Derived.Test.YtcnecjjgnnkjkaaWeighC
namespace Go.Proofs.Ytcnecjjgnnkjkaa
open Go.RowKit
set_option linter.unusedVariables false
set_option linter.unusedSimpArgs false
set_option maxRecDepth 100000

/-- The bits that a division of nought by nought draws. -/
def nanB (w : World) : Nat := (Question.nanBits .f64 0 0).cut (w.tape w.drawn (Question.nanBits .f64 0 0))
theorem nanB_nan (w : World) : (Ieee.double.read (nanB w)).isNaN = true := by
  unfold nanB
  generalize w.tape w.drawn (Question.nanBits .f64 0 0) = t
  show (Ieee.double.read ((t % 2) * 2 ^ 63 + 0x7ff0000000000000 + 1 + (t / 2) % (2 ^ 52 - 1))).isNaN = true
  have h : (t / 2) % (2 ^ 52 - 1) < 2 ^ 52 - 1 := Nat.mod_lt _ (by decide)
  generalize (t / 2) % (2 ^ 52 - 1) = r at h ⊢
  have hb : t % 2 < 2 := Nat.mod_lt _ (by decide)
  generalize t % 2 = b at hb ⊢
  unfold Ieee.Format.read
  simp only [dbl_signWeight, dbl_binade, dbl_infRung, dbl_least]
  have e : (b * 2 ^ 63 + 9218868437227405312 + 1 + r) % 2 ^ 63 = 9218868437227405312 + 1 + r := by omega
  rw [e, if_neg (by omega), if_neg (by omega), if_neg (by omega)]
  rfl
theorem run_nan {P : Program} (t : TypeId) (w : World) : (binOp .quo t (.float .f64 0) (.float .f64 0)).run P w = .ok (.float .f64 (nanB w)) w.drew := by
  have h : FloatKind.f64.format.div 0 0 = none := by decide +kernel
  simp [binOp, Op.floatArith, h, Question.forced, nanB]
theorem run_neg0 {P : Program} (w : World) : (Go.Op.unary .neg (.float .f64 0)).run P w = .ok (.float .f64 9223372036854775808) w := by
  simp [Go.Op.unary]
  try decide +kernel
def edgeX (b : Nat) : List Nat := [b, 9218868437227405312, 18442240474082181120, 0, 9223372036854775808, 4607182418800017408, 4607173411600762667, 13840687554816376832, 4742290407621132288, 4742290407625326592, 4886405595696988160, 1, 4742290407616937984, 9223372036854775808]
def edgeW : List Nat := [0, 1073741824, 0, 0, 0, 1, 0, 0, 1073741824, 1073741824, 1073741824, 0, 1073741823, 0]
theorem edge_is {b : Nat} (hb : (Ieee.double.read b).isNaN = true) (k : Nat) (hk : k < 14) : ∃ x n, (edgeX b)[k]? = some x ∧ edgeW[k]? = some n ∧ wN x = n ∧ n ≤ 1073741824 := by
  have h0 := wN_nan hb
  match k, hk with
  | 0, _ => exact ⟨b, 0, rfl, rfl, h0, by decide⟩
  | 1, _ => exact ⟨_, _, rfl, rfl, by decide +kernel, by decide⟩
  | 2, _ => exact ⟨_, _, rfl, rfl, by decide +kernel, by decide⟩
  | 3, _ => exact ⟨_, _, rfl, rfl, by decide +kernel, by decide⟩
  | 4, _ => exact ⟨_, _, rfl, rfl, by decide +kernel, by decide⟩
  | 5, _ => exact ⟨_, _, rfl, rfl, by decide +kernel, by decide⟩
  | 6, _ => exact ⟨_, _, rfl, rfl, by decide +kernel, by decide⟩
  | 7, _ => exact ⟨_, _, rfl, rfl, by decide +kernel, by decide⟩
  | 8, _ => exact ⟨_, _, rfl, rfl, by decide +kernel, by decide⟩
  | 9, _ => exact ⟨_, _, rfl, rfl, by decide +kernel, by decide⟩
  | 10, _ => exact ⟨_, _, rfl, rfl, by decide +kernel, by decide⟩
  | 11, _ => exact ⟨_, _, rfl, rfl, by decide +kernel, by decide⟩
  | 12, _ => exact ⟨_, _, rfl, rfl, by decide +kernel, by decide⟩
  | 13, _ => exact ⟨_, _, rfl, rfl, by decide +kernel, by decide⟩
set_option maxHeartbeats 2000000 in
theorem weighEdges_walk (W : World) (which : Int) (ww : (Lit.int .i64 which).wf = true) :
    Calls Try.prog 4 #[.int .i64 which] W fun e W' => e = .returned (.bool true) ∧ Below W.heap.size W W' := by
  have cA := hid (law10_alive W)
  have q1 := fun t w => run_float_arith (P := Try.prog) w .quo t .f64 4607182418800017408 0 9218868437227405312 (by decide +kernel)
  have q2 := fun t w => run_float_arith (P := Try.prog) w .quo t .f64 13830554455654793216 0 18442240474082181120 (by decide +kernel)
  have q3 := fun t w => run_float_arith (P := Try.prog) w .quo t .f64 4607182418800017408 18442240474082181120 9223372036854775808 (by decide +kernel)
  have q0 := fun t w => run_nan (P := Try.prog) t w
  have qn := fun (w : World) => run_neg0 (P := Try.prog) w
  have hF : FloatKind.f64.format = Ieee.double := rfl
  by_cases h : 0 ≤ which ∧ which < 14
  · obtain ⟨k, rfl⟩ := Int.eq_ofNat_of_zero_le h.1
    have c1 : ¬ (k : Int) < 0 := by omega
    have c2 : ¬ (14 : Int) ≤ (k : Int) := by omega
    have c3 : (k : Int) < 14 := by omega
    have c4 : (0 : Int) ≤ (k : Int) := by omega
    clear h ww
    go_enter Try.func4, Try.ntmps4
    go_wp2_with fail
    refine cA.out.mono ?_
    rintro _ w1 ⟨rfl, hb⟩
    have HB1 := hid hb
    clear hb
    obtain ⟨x, n, hx, hn, hw, hle⟩ := edge_is (nanB_nan w1) k (by omega)
    have hA := (Blk.new_at w1 #[.float .f64 (nanB w1), .float .f64 9218868437227405312, .float .f64 18442240474082181120, .float .f64 0, .float .f64 9223372036854775808, .float .f64 4607182418800017408, .float .f64 4607173411600762667, .float .f64 13840687554816376832, .float .f64 4742290407621132288, .float .f64 4742290407625326592, .float .f64 4886405595696988160, .float .f64 1, .float .f64 4742290407616937984, .float .f64 9223372036854775808] 23 w1.heap.size rfl).alloc (.cells #[.int .i64 0, .int .i64 1073741824, .int .i64 0, .int .i64 0, .int .i64 0, .int .i64 1, .int .i64 0, .int .i64 0, .int .i64 1073741824, .int .i64 1073741824, .int .i64 1073741824, .int .i64 0, .int .i64 1073741823, .int .i64 0] 3)
    have hB := Blk.new_at (w1.alloc (.cells #[.float .f64 (nanB w1), .float .f64 9218868437227405312, .float .f64 18442240474082181120, .float .f64 0, .float .f64 9223372036854775808, .float .f64 4607182418800017408, .float .f64 4607173411600762667, .float .f64 13840687554816376832, .float .f64 4742290407621132288, .float .f64 4742290407625326592, .float .f64 4886405595696988160, .float .f64 1, .float .f64 4742290407616937984, .float .f64 9223372036854775808] 23)) #[.int .i64 0, .int .i64 1073741824, .int .i64 0, .int .i64 0, .int .i64 0, .int .i64 1, .int .i64 0, .int .i64 0, .int .i64 1073741824, .int .i64 1073741824, .int .i64 1073741824, .int .i64 0, .int .i64 1073741823, .int .i64 0] 3 (w1.heap.size + 1) (by simp)
    have HBB := hid (((HB1.out.alloc HB1.out.size (.cells #[.float .f64 (nanB w1), .float .f64 9218868437227405312, .float .f64 18442240474082181120, .float .f64 0, .float .f64 9223372036854775808, .float .f64 4607182418800017408, .float .f64 4607173411600762667, .float .f64 13840687554816376832, .float .f64 4742290407621132288, .float .f64 4742290407625326592, .float .f64 4886405595696988160, .float .f64 1, .float .f64 4742290407616937984, .float .f64 9223372036854775808] 23)).alloc (by have := HB1.out.size; simp; omega) (.cells #[.int .i64 0, .int .i64 1073741824, .int .i64 0, .int .i64 0, .int .i64 0, .int .i64 1, .int .i64 0, .int .i64 0, .int .i64 1073741824, .int .i64 1073741824, .int .i64 1073741824, .int .i64 0, .int .i64 1073741823, .int .i64 0] 3)).drew)
    have HBI := hid hB.drew
    have y0 : ((w1.alloc (.cells #[.float .f64 (nanB w1), .float .f64 9218868437227405312, .float .f64 18442240474082181120, .float .f64 0, .float .f64 9223372036854775808, .float .f64 4607182418800017408, .float .f64 4607173411600762667, .float .f64 13840687554816376832, .float .f64 4742290407621132288, .float .f64 4742290407625326592, .float .f64 4886405595696988160, .float .f64 1, .float .f64 4742290407616937984, .float .f64 9223372036854775808] 23)).alloc (.cells #[.int .i64 0, .int .i64 1073741824, .int .i64 0, .int .i64 0, .int .i64 0, .int .i64 1, .int .i64 0, .int .i64 0, .int .i64 1073741824, .int .i64 1073741824, .int .i64 1073741824, .int .i64 0, .int .i64 1073741823, .int .i64 0] 3)).drew.cell? ⟨w1.heap.size, k, none⟩ = some (.float .f64 x) := (hA.drew.cell k).trans (by
      have := congrArg (fun o => o.map (Value.float .f64)) hx
      rw [← List.getElem?_map] at this
      exact this)
    have y1 : (#[.int .i64 0, .int .i64 1073741824, .int .i64 0, .int .i64 0, .int .i64 0, .int .i64 1, .int .i64 0, .int .i64 0, .int .i64 1073741824, .int .i64 1073741824, .int .i64 1073741824, .int .i64 0, .int .i64 1073741823, .int .i64 0] : Array Value).toList[k]? = some (.int .i64 (n : Int)) := by
      have := congrArg (fun o => o.map (fun (m : Nat) => Value.int .i64 (m : Int))) hn
      rw [← List.getElem?_map] at this
      exact this
    have HY1 := hid y1
    have cW := hid (fun w => weight x w)
    rw [hw] at cW
    clear hx hn hw hA hB y1
    go_wp2_with fail
    refine (cW.out _).mono ?_
    rintro _ w2 ⟨rfl, hb⟩
    have HB2 := hid (held_next HBB.out hb)
    have z0 := (HBI.out.below' hb).cellv HY1.out
    clear hb y0
    have e1 := foi n
    have e2 : (Ieee.double.order (wd n) (wd n) == some .eq) = true := by rw [order_wd (by omega)]; rfl
    by_cases h0 : n = 0
    · subst h0
      have e3 : (Ieee.double.order 0 0 == some .eq) = true := by decide +kernel
      have e4 : (Ieee.double.order 0 0 != some .eq) = false := by decide +kernel
      have q4 := fun t w => run_float_arith (P := Try.prog) w .quo t .f64 4607182418800017408 0 9218868437227405312 (by decide +kernel)
      have e5 : (Ieee.double.order 9218868437227405312 0 == some .gt) = true := by decide +kernel
      rw [wd_zero] at e1 e2 ⊢
      go_wp2_with fail
      go_ret
      exact ⟨rfl, HB2.out⟩
    · obtain ⟨y, hy, hy0⟩ := one_div (m := n) h0 (by omega)
      have e4 := fun t w => run_float_arith (P := Try.prog) w .quo t .f64 _ _ _ hy
      unfold c1f at e4
      have e5 : (Ieee.double.order y 0 == some .gt) = true := by rw [hy0]; rfl
      have e6 : (Ieee.double.order (wd n) 0 != some .eq) = true := by
        have h1 := wd_gt (n := n) (by omega)
        rw [decide_eq_true (show 0 < n by omega), beq_iff_eq] at h1
        rw [h1]; rfl
      clear hy hy0 h0
      generalize wd n = v at *
      go_wp2_with fail
      go_ret
      exact ⟨rfl, HB2.out⟩
  · have h' : which < 0 ∨ ¬ which < 0 ∧ 14 ≤ which := by omega
    clear h
    clear ww
    have h2 : (decide (which < 0) = true) ∨ (decide (which < 0) = false ∧ decide (14 ≤ which) = true) := by
      rcases h' with h | ⟨h1, h2⟩
      · exact .inl (decide_eq_true h)
      · exact .inr ⟨decide_eq_false h1, decide_eq_true h2⟩
    clear h'
    rcases h2 with h | ⟨h1, h2⟩
    all_goals
      go_enter Try.func4, Try.ntmps4
      go_wp2_with fail
      refine cA.out.mono ?_
      rintro _ w1 ⟨rfl, hb⟩
      have HB1 := hid hb
      clear hb
      go_wp2_with fail
      go_ret
      exact ⟨rfl, (((HB1.out.alloc HB1.out.size _).alloc (by have := HB1.out.size; simp; omega) _).drew)⟩
end Go.Proofs.Ytcnecjjgnnkjkaa
