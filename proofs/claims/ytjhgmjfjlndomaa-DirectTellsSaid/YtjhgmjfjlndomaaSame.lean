/-
  Routes as plain data; the reference's comparing of two lists. No condition.
-/
import Derived.Test.YtjhgmjfjlndomaaRd
import Derived.Test.YtjhgmjfjlndomaaRefAddr
namespace Go.Proofs.Ytjhgmjfjlndomaa
open Go.RowKit
set_option linter.unusedVariables false
set_option linter.unusedSimpArgs false
set_option maxRecDepth 100000

/-- A route: its prefix, its hop. -/
abbrev Rt := Pf × Int
def rtEn (r : Rt) : List Value := [.int .u64 (r.1.1.1 : Int), .int .u64 (r.1.1.2 : Int), .int .i64 r.1.2, .int .i64 r.2]
theorem rtEn_length (r : Rt) : (rtEn r).length = 4 := rfl
theorem pfEn_len (p : Pf) : (pfEn p).length = 3 := rfl
def Rt.fit (r : Rt) : Prop := r.1.fit ∧ (Lit.int .i64 r.2).wf = true
theorem open_rt : Opens Try.prog 51 Rt rtEn Rt.fit :=
  (Opens.struct2 Try.underlying51 open_pf (Opens.int Try.underlying3 (by kernel_rfl)) ⟨rfl, by kernel_rfl, by kernel_rfl⟩).map (fun x => (x.1, x.2))
    (fun a h => rfl) (fun _ => (show 4 = Try.prog.cellsOf 51 by kernel_rfl)) (fun a h => h)
theorem rt_cells : Try.prog.cellsOf 51 = 4 := by kernel_rfl
theorem pf_cells : Try.prog.cellsOf 26 = 3 := by kernel_rfl
theorem eq_rt (d : Nat) (w : World) (x0 y0 x1 y1 x2 y2 x3 y3 : Int) :
    (Op.equalIn (d + 4) 51 (.agg #[.int .u64 x0, .int .u64 x1, .int .i64 x2, .int .i64 x3]) (.agg #[.int .u64 y0, .int .u64 y1, .int .i64 y2, .int .i64 y3])).run Try.prog w = .ok (((x0 == y0 && (x1 == y1)) && (x2 == y2)) && (x3 == y3)) w := by
  refine eqs_of Try.underlying51 (by kernel_rfl) ?_
  refine eqf2 (by rfl) (by (go_simp; try rfl)) (by (go_simp; try rfl)) (eq_pf _ _ _ _ _ _ _ _) ?_
  exact eqf1 (by rfl) (by (go_simp; try rfl)) (by (go_simp; try rfl)) (by go_simp)
attribute [local go_sem high] eq_ad eq_pf eq_rt
theorem guard_rt : Try.prog.eqGuardType Try.prog.depth 51 = false := by kernel_rfl
theorem rt_beq (p q : Rt) : (((((p.1.1.1 : Nat) : Int) == (q.1.1.1 : Int) && (((p.1.1.2 : Nat) : Int) == (q.1.1.2 : Int))) && (p.1.2 == q.1.2)) && (p.2 == q.2)) = decide (p = q) := by
  rw [pf_beq, Bool.eq_iff_iff]; simp [Prod.ext_iff]

theorem take_step {α : Type} {l1 l2 : List α} {k : Nat} {x y : α} (h1 : l1[k]? = some x) (h2 : l2[k]? = some y) (he : l1.take k = l2.take k) : l1.take (k + 1) = l2.take (k + 1) ↔ x = y := by
  obtain ⟨a1, rfl⟩ := List.getElem?_eq_some_iff.1 h1
  obtain ⟨a2, rfl⟩ := List.getElem?_eq_some_iff.1 h2
  rw [List.take_succ_eq_append_getElem a1, List.take_succ_eq_append_getElem a2, he, List.append_cancel_left_eq]; simp
def SameLp {α : Type} (w : World) (l1 l2 : List α) (i : Value) (wr : World) : Prop := ∃ k : Nat, k ≤ l1.length ∧ i = .int .i64 k ∧ l1.take k = l2.take k ∧ Below w.heap.size w wr

theorem ref_samePfs (w : World) (v1 v2 : Value) (l1 l2 : List Pf) (h1 : Rd pfEn 3 w v1 l1) (h2 : Rd pfEn 3 w v2 l2) (b : Bool) (hb : b = decide (l1 = l2)) :
    Calls Try.prog 17 #[v1, v2] w fun e w' => e = .returned (.bool b) ∧ Below w.heap.size w w' := by
  have hg := guard_pf
  have HB := hid hb
  have R1 := hid fun k x (h : l1[k]? = some x) => h1.get pfEn_len (by decide) h
  have R2 := hid fun k x (h : l2[k]? = some x) => h2.get pfEn_len (by decide) h
  obtain ⟨A, c1, rfl, n1, m1⟩ := h1.form
  obtain ⟨B, c2, rfl, n2, m2⟩ := h2.form
  unfold maxLen at m1 m2
  clear hb h1 h2
  by_cases hl : l1.length = l2.length
  · have hn : ((l1.length : Int) != (l2.length : Int)) = false := by simp [hl]
    have HL := hid hl
    clear hl
    go_enter Try.func17, Try.ntmps17
    go_wp2_with fail
    go_loopw [5] (fun i wr => SameLp w l1 l2 i wr) (fun i _ => l1.length - (intOf i).toNat)
    case atStart => exact ⟨0, Nat.zero_le _, rfl, rfl, Below.refl _ _⟩
    case round =>
      obtain ⟨k, hk, rfl, ht, hB⟩ := hrel
      have HT := hid ht
      clear ht
      by_cases hlt : k < l1.length
      · have g1 : l1[k]? = some l1[k] := List.getElem?_eq_getElem hlt
        have g2 : l2[k]? = some (l2[k]'(by have := HL.out; omega)) := List.getElem?_eq_getElem _
        have hnx := hid (take_step g1 g2 HT.out)
        have hk2 : k < l2.length := by have := HL.out; omega
        generalize l1[k] = x at g1 hnx
        generalize l2[k]'_ = y at g2 hnx
        obtain ⟨ba, oa, ca, ha, _, _, la, sa⟩ := R1.out k x g1
        obtain ⟨bb, ob, cb, hb, _, _, lb, sb⟩ := R2.out k y g2
        injection ha with ha _ hc1
        injection hb with hb _ hc2
        subst ha hb hc1 hc2
        have u0 : wr.cell? ⟨ba, oa + k * 3, none⟩ = some (.int .u64 (x.1.1 : Int)) := (hB.cell (p := ⟨ba, oa + k * 3, none⟩) la).trans (sa 0 _ rfl)
        have u1 : wr.cell? ⟨ba, oa + k * 3 + 1, none⟩ = some (.int .u64 (x.1.2 : Int)) := (hB.cell (p := ⟨ba, oa + k * 3 + 1, none⟩) la).trans (sa 1 _ rfl)
        have u2 : wr.cell? ⟨ba, oa + k * 3 + 2, none⟩ = some (.int .i64 x.2) := (hB.cell (p := ⟨ba, oa + k * 3 + 2, none⟩) la).trans (sa 2 _ rfl)
        have v0 : wr.cell? ⟨bb, ob + k * 3, none⟩ = some (.int .u64 (y.1.1 : Int)) := (hB.cell (p := ⟨bb, ob + k * 3, none⟩) lb).trans (sb 0 _ rfl)
        have v1 : wr.cell? ⟨bb, ob + k * 3 + 1, none⟩ = some (.int .u64 (y.1.2 : Int)) := (hB.cell (p := ⟨bb, ob + k * 3 + 1, none⟩) lb).trans (sb 1 _ rfl)
        have v2 : wr.cell? ⟨bb, ob + k * 3 + 2, none⟩ = some (.int .i64 y.2) := (hB.cell (p := ⟨bb, ob + k * 3 + 2, none⟩) lb).trans (sb 2 _ rfl)
        have hbe := pf_beq x y
        clear g1 g2 sa sb
        by_cases he : x = y
        · rw [decide_eq_true he] at hbe
          have HE := hid he
          clear he
          go_wp2_with fail
          go_quiet (fail)
          go_wp2_with fail
          go_roundw
          case rel => exact ⟨k + 1, by omega, by go_num, hnx.out.2 HE.out, hB.drewN _⟩
          case measure => simp [intOf]; omega
        · rw [decide_eq_false he] at hbe
          have HE := hid he
          clear he
          go_wp2_with fail
          go_quiet (fail)
          go_wp2_with fail
          go_ret
          refine ⟨ret_bool ?_, hB.drewN _⟩
          rw [HB.out]
          exact (decide_eq_false fun h => HE.out (hnx.out.1 (by rw [h]))).symm
      · have hkl : k = l1.length := by omega
        have HK := hid hkl
        clear hkl
        go_wp2_with fail
        go_ret
        refine ⟨ret_bool ?_, hB⟩
        rw [HB.out]
        have e := HT.out
        rw [HK.out, List.take_of_length_le (Nat.le_refl _), HL.out, List.take_of_length_le (Nat.le_refl _)] at e
        exact (decide_eq_true e).symm
  · have hn : ((l1.length : Int) != (l2.length : Int)) = true := by simp [hl]; omega
    have HL := hid hl
    clear hl
    go_enter Try.func17, Try.ntmps17
    go_wp2_with fail
    go_ret
    refine ⟨ret_bool ?_, Below.refl _ _⟩
    rw [HB.out]
    exact (decide_eq_false fun h => HL.out (by rw [h])).symm

theorem ref_sameRts (w : World) (v1 v2 : Value) (l1 l2 : List Rt) (h1 : Rd rtEn 4 w v1 l1) (h2 : Rd rtEn 4 w v2 l2) (b : Bool) (hb : b = decide (l1 = l2)) :
    Calls Try.prog 39 #[v1, v2] w fun e w' => e = .returned (.bool b) ∧ Below w.heap.size w w' := by
  have hg := guard_rt
  have HB := hid hb
  have R1 := hid fun k x (h : l1[k]? = some x) => h1.get rtEn_length (by decide) h
  have R2 := hid fun k x (h : l2[k]? = some x) => h2.get rtEn_length (by decide) h
  obtain ⟨A, c1, rfl, n1, m1⟩ := h1.form
  obtain ⟨B, c2, rfl, n2, m2⟩ := h2.form
  unfold maxLen at m1 m2
  clear hb h1 h2
  by_cases hl : l1.length = l2.length
  · have hn : ((l1.length : Int) != (l2.length : Int)) = false := by simp [hl]
    have HL := hid hl
    clear hl
    go_enter Try.func39, Try.ntmps39
    go_wp2_with fail
    go_loopw [5] (fun i wr => SameLp w l1 l2 i wr) (fun i _ => l1.length - (intOf i).toNat)
    case atStart => exact ⟨0, Nat.zero_le _, rfl, rfl, Below.refl _ _⟩
    case round =>
      obtain ⟨k, hk, rfl, ht, hB⟩ := hrel
      have HT := hid ht
      clear ht
      by_cases hlt : k < l1.length
      · have g1 : l1[k]? = some l1[k] := List.getElem?_eq_getElem hlt
        have g2 : l2[k]? = some (l2[k]'(by have := HL.out; omega)) := List.getElem?_eq_getElem _
        have hnx := hid (take_step g1 g2 HT.out)
        have hk2 : k < l2.length := by have := HL.out; omega
        generalize l1[k] = x at g1 hnx
        generalize l2[k]'_ = y at g2 hnx
        obtain ⟨ba, oa, ca, ha, _, _, la, sa⟩ := R1.out k x g1
        obtain ⟨bb, ob, cb, hb, _, _, lb, sb⟩ := R2.out k y g2
        injection ha with ha _ hc1
        injection hb with hb _ hc2
        subst ha hb hc1 hc2
        have u0 : wr.cell? ⟨ba, oa + k * 4, none⟩ = some (.int .u64 (x.1.1.1 : Int)) := (hB.cell (p := ⟨ba, oa + k * 4, none⟩) la).trans (sa 0 _ rfl)
        have u1 : wr.cell? ⟨ba, oa + k * 4 + 1, none⟩ = some (.int .u64 (x.1.1.2 : Int)) := (hB.cell (p := ⟨ba, oa + k * 4 + 1, none⟩) la).trans (sa 1 _ rfl)
        have u2 : wr.cell? ⟨ba, oa + k * 4 + 2, none⟩ = some (.int .i64 x.1.2) := (hB.cell (p := ⟨ba, oa + k * 4 + 2, none⟩) la).trans (sa 2 _ rfl)
        have u3 : wr.cell? ⟨ba, oa + k * 4 + 3, none⟩ = some (.int .i64 x.2) := (hB.cell (p := ⟨ba, oa + k * 4 + 3, none⟩) la).trans (sa 3 _ rfl)
        have v0 : wr.cell? ⟨bb, ob + k * 4, none⟩ = some (.int .u64 (y.1.1.1 : Int)) := (hB.cell (p := ⟨bb, ob + k * 4, none⟩) lb).trans (sb 0 _ rfl)
        have v1 : wr.cell? ⟨bb, ob + k * 4 + 1, none⟩ = some (.int .u64 (y.1.1.2 : Int)) := (hB.cell (p := ⟨bb, ob + k * 4 + 1, none⟩) lb).trans (sb 1 _ rfl)
        have v2 : wr.cell? ⟨bb, ob + k * 4 + 2, none⟩ = some (.int .i64 y.1.2) := (hB.cell (p := ⟨bb, ob + k * 4 + 2, none⟩) lb).trans (sb 2 _ rfl)
        have v3 : wr.cell? ⟨bb, ob + k * 4 + 3, none⟩ = some (.int .i64 y.2) := (hB.cell (p := ⟨bb, ob + k * 4 + 3, none⟩) lb).trans (sb 3 _ rfl)
        have hbe := rt_beq x y
        clear g1 g2 sa sb
        by_cases he : x = y
        · rw [decide_eq_true he] at hbe
          have HE := hid he
          clear he
          go_wp2_with fail
          go_quiet (fail)
          go_wp2_with fail
          go_roundw
          case rel => exact ⟨k + 1, by omega, by go_num, hnx.out.2 HE.out, hB.drewN _⟩
          case measure => simp [intOf]; omega
        · rw [decide_eq_false he] at hbe
          have HE := hid he
          clear he
          go_wp2_with fail
          go_quiet (fail)
          go_wp2_with fail
          go_ret
          refine ⟨ret_bool ?_, hB.drewN _⟩
          rw [HB.out]
          exact (decide_eq_false fun h => HE.out (hnx.out.1 (by rw [h]))).symm
      · have hkl : k = l1.length := by omega
        have HK := hid hkl
        clear hkl
        go_wp2_with fail
        go_ret
        refine ⟨ret_bool ?_, hB⟩
        rw [HB.out]
        have e := HT.out
        rw [HK.out, List.take_of_length_le (Nat.le_refl _), HL.out, List.take_of_length_le (Nat.le_refl _)] at e
        exact (decide_eq_true e).symm
  · have hn : ((l1.length : Int) != (l2.length : Int)) = true := by simp [hl]; omega
    have HL := hid hl
    clear hl
    go_enter Try.func39, Try.ntmps39
    go_wp2_with fail
    go_ret
    refine ⟨ret_bool ?_, Below.refl _ _⟩
    rw [HB.out]
    exact (decide_eq_false fun h => HL.out (by rw [h])).symm

end Go.Proofs.Ytjhgmjfjlndomaa
