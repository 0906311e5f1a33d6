/-
  The row of the law DeltaTurns: for every input it returns true, and its arguments read as before. No condition.
-/
import Derived.Test.YtcchjljdhjkmeaaRows
import Derived.Test.YtcchjljdhjkmeaaRow
import Derived.Test.YtcchjljdhjkmeaaRow
import Derived.Test.YtcchjljdhjkmeaaGBase
import Derived.Test.YtcchjljdhjkmeaaGRef
import Derived.Test.YtcchjljdhjkmeaaDeltaTurns
namespace Go.Proofs.Ytcchjljdhjkmeaa.deltaTurns
open Go.ChangeShapes Go.WideShapes Go.ChangeAt Go.RowKit
open Go.ChangeMaps (open_string shut_string)
set_option linter.unusedVariables false
theorem own : ownKnob Try.prog.godebug = none := by kernel_rfl
theorem laidOut : laidOutB Try.prog = true := by kernel_rfl
set_option maxRecDepth 100000 in
theorem lifted (os : Os) (started : os.Started) (H : Type) (enc : TypeId × Value → H) :
    ReturnsInHanded {} Try.checked os 4 .any (Rows.deltaTurnsSpec.pre6 enc Try.prog Try.f4 Rows.deltaTurnsRow.domain false) (Rows.deltaTurnsSpec.post enc Try.prog Try.f4 false true false false) := by
  refine returnsInHanded_of_change_sized (C := Try.checked) own started (by kernel_rfl) Try.func4
    (ChangeSpec.witness6 (enc := enc) (C := Try.checked) false ⟨#[], #[.slice none 0 0, .slice none 0 0], []⟩ 8 (by kernel_rfl) (by kernel_rfl) (by kernel_rfl) (by kernel_rfl)) ?_
  intro W base args ds gs before hval0 hW hcnd hsz0 _
  have hsz : (DataW.weightsEach Try.prog (Try.f4.params.toList ++ Rows.deltaTurnsSpec.plain.varTypes Try.prog) (ds ++ gs)).all (· ≤ reachBytes) = true := hsz0
  have hval : ∀ (j : Nat) t v, Try.f4.params[j]? = some t → args[j]? = some v → Value.okWide Try.prog W .any base t v := hval0
  have hW' := hW
  obtain ⟨p, q, hA0, hV, rfl, hfz, hnd⟩ := hW
  have hA : DataW.TrodAll enc Try.prog W 0 (fun _ => true) true Try.f4.params.toList args.toList ds p := hA0
  rw [Try.params4] at hA hval hsz
  have hA1 := hA
  obtain ⟨v0, vs0, d0, ds0, p0, q0, hargs, rfl, rfl, h0, r0⟩ := trodAll_cons hA
  obtain ⟨v1, vs1, d1, ds1, p1, q1, rfl, rfl, rfl, h1, r1⟩ := trodAll_cons r0
  obtain ⟨rfl, rfl, rfl⟩ := trodAll_nil r1
  obtain rfl : args = #[v0, v1] := by cases args; simp_all
  obtain ⟨rfl, rfl⟩ := trodVars_none hV
  obtain ⟨A0, cap0, l0, rfl, hl0, hc0, hok0, hr0, hn0⟩ := open_row2 Try.underlying22 open_rt (by rw [rt_cells]; decide) (hval 0 22 v0 rfl rfl) h0
  rw [rt_cells] at hr0
  obtain ⟨A1, cap1, l1, rfl, hl1, hc1, hok1, hr1, hn1⟩ := open_row2 Try.underlying22 open_rt (by rw [rt_cells]; decide) (hval 1 22 v1 rfl rfl) h1
  rw [rt_cells] at hr1
  clear hA0 hval0 hsz0
  refine (deltaTurns_walk W _ l0 ⟨A0, cap0, rfl, hl0, hc0, hr0, hn0⟩ hok0 _ l1 ⟨A1, cap1, rfl, hl1, hc1, hr1, hn1⟩ hok1).mono fun e W' ⟨he, bel⟩ => ?_
  subst he
  exact ⟨_, rfl, _, _, _, [], _, [], hW', trodAll_mk1 (shut_bool Try.underlying4 _), trodAll_below laidOut bel (by kernel_rfl) hA1, rfl, bel.frame _, fun h => by cases h⟩
theorem over : Rows.deltaTurnsRow.holds Try.pinned (OpenSpec.ofChange Rows.deltaTurnsSpec) :=
  OpenClaim.holds_of_wide 4 Try.f4 rfl rfl rfl rfl rfl rfl rfl ⟨rfl, rfl, rfl, rfl, rfl⟩ rfl rfl rfl rfl rfl (by kernel_rfl) Try.func4 (by kernel_rfl)
    (of_decide_eq_true (by kernel_rfl)) (by unfold Func.isWrapper; first | (rw [if_pos (by decide +kernel)]; kernel_rfl) | (rw [if_neg (by decide +kernel)]; exact ⟨rfl, rfl⟩))
    (fun os started H enc _ => lifted os started H enc)
end Go.Proofs.Ytcchjljdhjkmeaa.deltaTurns
namespace Go.Proofs.Ytcchjljdhjkmeaa
theorem deltaTurns_holds : Rows.DeltaTurnsSaid := deltaTurns.over
#print axioms deltaTurns_holds
end Go.Proofs.Ytcchjljdhjkmeaa
