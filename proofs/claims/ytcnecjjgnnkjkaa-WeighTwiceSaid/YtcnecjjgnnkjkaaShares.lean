/-
  weigh.Shares, walked: what each has. No condition but that it can be shared.
-/
import Derived.Test.YtcnecjjgnnkjkaaShares1
namespace Go.Proofs.Ytcnecjjgnnkjkaa
open Go.RowKit
set_option linter.unusedVariables false
set_option linter.unusedSimpArgs false
set_option maxRecDepth 100000

def P1Rel (w0 : World) (ns : List Nat) (least left all N : Nat) (rest i : Value) (wr : World) : Prop :=
  ∃ j : Nat, j ≤ N ∧ i = .int .i64 j ∧ rest = .int .i64 ((left - partsS left all (ns.take j) : Nat) : Int) ∧ Blk wr w0.heap.size 3 (intsV (outJ least left all ns j N)) ∧ Below w0.heap.size w0 wr
def P2Rel (w0 : World) (q : Nat) (ns os : List Nat) (r N : Nat) (rest i : Value) (wr : World) : Prop :=
  ∃ j : Nat, j ≤ N ∧ i = .int .i64 j ∧ rest = .int .i64 ((restA r (ns.take j) : Nat) : Int) ∧ Blk wr q 3 (intsV (moreJ r ns os j)) ∧ Below w0.heap.size w0 wr
set_option maxHeartbeats 2000000 in
theorem weigh_shares (w : World) (v : Value) (xs : List Nat) (R : Rd flEn 1 w v xs) (total least : Nat) (h : ¬ WrongP total least xs.length) :
    Calls Try.prog 11 #[.int .i64 total, .int .i64 least, v] w fun e w' => (∃ vo, e = .returned (.tuple #[vo, .int .i64 0]) ∧ Owns w' w.heap.size 3 1 vo xs.length (intsV (shareL total least (xs.map wN)))) ∧ Below w.heap.size w w' := by
  have HR := hid R
  obtain ⟨A, cap, rfl, n1, m1⟩ := R.form
  unfold maxLen at m1
  obtain ⟨n, hn⟩ : ∃ n, xs.length = n := ⟨_, rfl⟩
  rw [hn] at HR h n1 ⊢
  have c1 := hid (fun w => weigh_wrong (total : Int) (least : Int) (n : Int) false (by simp [h]) w)
  unfold WrongP at h
  have hn1 : 1 ≤ n := by omega
  have hn2 : n ≤ 200 := by omega
  have HN := hid hn
  have hl1 : least ≤ 65536 := by omega
  have ht1 : total ≤ 1073741824 := by omega
  have htl : least * n ≤ total := by
    have : ¬ (total : Int) < (least : Int) * (n : Int) := fun k => h (by omega)
    have h2 : ((least * n : Nat) : Int) ≤ (total : Int) := by rw [Int.natCast_mul]; omega
    omega
  have hw1 : IntKind.i64.wrap ((least : Int) * (n : Int)) = (least : Int) * (n : Int) := by rw [IntKind.wrap_i64, ← Int.natCast_mul]; omega
  obtain ⟨left, hleft⟩ : ∃ l, total - least * n = l := ⟨_, rfl⟩
  have hw2 : IntKind.i64.wrap ((total : Int) - (least : Int) * (n : Int)) = (left : Int) := by rw [IntKind.wrap_i64, ← Int.natCast_mul]; omega
  have hmk := fun w => make_at (P := Try.prog) 25 3 (.int .i64 0) 8 Try.underlying25 int_row rfl .i64 .i64 (n : Int) n rfl (by omega) (by omega) w
  have HW := hid (fun x w => weight x w)
  clear R hn h
  go_enter Try.func11, Try.ntmps11
  go_wp2_with fail
  refine (c1.out _).mono ?_
  rintro _ w1 ⟨rfl, hb⟩
  have HB1 := hid hb
  clear hb c1
  go_wp2_with fail
  go_loopw [8, 26] (fun all i wr => SumRel w1 xs all i wr) (fun _ i _ => n - (intOf i).toNat)
  case atStart => exact ⟨0, Nat.zero_le _, rfl, rfl, Below.refl _ _⟩
  case round =>
    obtain ⟨j, hj, rfl, rfl, hB⟩ := hrel
    rw [HN.out] at hj
    have HB := hid hB
    have HBW := hid (HB1.out.trans (hB.mono HB1.out.size))
    have hsl := sum_le (xs.take j)
    rw [List.length_take] at hsl
    clear hB
    by_cases hjn : j < n
    · obtain ⟨x, hx⟩ : ∃ x, xs[j]? = some x := ⟨_, List.getElem?_eq_getElem (by rw [HN.out]; exact hjn)⟩
      obtain ⟨bx, ox, qx, hvx, _, _, lx, sx⟩ := HR.out.get flEn_len (by decide) hx
      injection hvx with a1 a2 a3
      subst a1 a3
      have y0 : wr.cell? ⟨bx, ox + j, none⟩ = some (.float .f64 x) := by
        have y := (HBW.out.cell (p := ⟨bx, ox + j * 1, none⟩) lx).trans (sx 0 _ rfl)
        rwa [Nat.mul_one] at y
      have HSN := hid (sum_snoc hx)
      have hwx := wN_le x
      have hcv := fun w => run_int_wd (P := Try.prog) (n := wN x) (by omega) 23 3 (by kernel_rfl) Try.underlying3 w
      have j0 : (0 : Int) ≤ (j : Int) := by omega
      have j1 : (j : Int) < (n : Int) := by omega
      have e3 : IntKind.i64.wrap ((j : Int) + 1) = (j : Int) + 1 := by rw [IntKind.wrap_i64]; omega
      generalize ((xs.take j).map wN).sum = S at hsl HSN ⊢
      have e4 : IntKind.i64.wrap ((S : Int) + (wN x : Int)) = ((S + wN x : Nat) : Int) := by rw [IntKind.wrap_i64]; omega
      have HJN := hid hjn
      clear a2 sx lx hx hjn
      go_wp2_with fail
      refine (HW.out x _).mono ?_
      rintro _ w2 ⟨rfl, hb⟩
      have HB2 := hid (held_next HB.out hb)
      clear hb
      go_wp2_with fail
      go_roundw
      case rel => exact ⟨j + 1, by have := HJN.out; have := HN.out; omega, by go_num, by rw [HSN.out]; simp [Int.natCast_add], HB2.out⟩
      case measure => have := HJN.out; simp only [intOf]; omega
    · have c3 : ¬ (j : Int) < (n : Int) := by omega
      have hjj : j = n := by omega
      have htk : xs.take j = xs := List.take_of_length_le (by rw [HN.out]; omega)
      rw [htk] at hsl ⊢
      generalize hall : (xs.map wN).sum = all at hsl ⊢
      have HALL := hid hall
      clear hall htk hjj
      rename World => wa
      have HBM := hid (Blk.made wa (.int .i64 0) n 3)
      have HBA := hid ((Below.refl wa.heap.size wa).alloc (Nat.le_refl _) (.cells (madeCells #[.int .i64 0] n) 3))
      go_wp2_with fail
      obtain ⟨ns, hns⟩ : ∃ ns, xs.map wN = ns := ⟨_, rfl⟩
      have HNS := hid hns
      have HNL := hid (show ns.length = n by rw [← hns, List.length_map, HN.out])
      rw [hns] at HALL
      clear hns
      go_loopw [12, 48] (fun rest i w' => P1Rel wa ns least left all n rest i w') (fun _ i _ => n - (intOf i).toNat)
      case atStart => exact ⟨0, Nat.zero_le _, rfl, by simp [partsS], by rw [outJ_zero, intsV_rep]; exact HBM.out, HBA.out⟩
      case round =>
        obtain ⟨j, hj, rfl, rfl, hO, hB⟩ := hrel
        have HO := hid hO
        have HB1 := hid hB
        have HBW1 := hid (HBW.out.trans (hB.mono HBW.out.size))
        clear hO hB
        by_cases hjn : j < n
        · obtain ⟨x, hx⟩ : ∃ x, xs[j]? = some x := ⟨_, List.getElem?_eq_getElem (by rw [HN.out]; exact hjn)⟩
          obtain ⟨bx, ox, qx, hvx, _, _, lx, sx⟩ := HR.out.get flEn_len (by decide) hx
          injection hvx with a1 a2 a3
          subst a1 a3
          have y0 : wr.cell? ⟨bx, ox + j, none⟩ = some (.float .f64 x) := by
            have y := (HBW1.out.cell (p := ⟨bx, ox + j * 1, none⟩) lx).trans (sx 0 _ rfl)
            rwa [Nat.mul_one] at y
          have hnx : ns[j]? = some (wN x) := by rw [← HNS.out]; simp [hx]
          have HNX := hid hnx
          have hwx := wN_le x
          have hcv := fun w => run_int_wd (P := Try.prog) (n := wN x) (by omega) 23 3 (by kernel_rfl) Try.underlying3 w
          have j0 : (0 : Int) ≤ (j : Int) := by omega
          have j1 : (j : Int) < (n : Int) := by omega
          have e3 : IntKind.i64.wrap ((j : Int) + 1) = (j : Int) + 1 := by rw [IntKind.wrap_i64]; omega
          have HJN := hid hjn
          have q0 := HO.out.cellv (intsV_get (outJ_get hjn HNL.out))
          have q1 := HO.out.frozen j
          clear a2 sx lx hx hjn hnx
          by_cases hall0 : 0 < all
          · have a0 : (0 : Int) < (all : Int) := by omega
            have a1 : ¬ (all : Int) = 0 := by omega
            have HNB := hid (show wN x * left ≤ 2 ^ 30 * 2 ^ 30 from Nat.mul_le_mul hwx (by omega))
            obtain ⟨M, hM⟩ : ∃ M, wN x * left = M := ⟨_, rfl⟩
            rw [hM] at HNB
            have e5 : IntKind.i64.wrap ((wN x : Int) * (left : Int)) = (M : Int) := by rw [← Int.natCast_mul, hM, IntKind.wrap_i64]; have := HNB.out; omega
            have HM := hid hM
            have hO1 := HO.out.set j (.int .i64 (least : Int))
            have hB2 := HB1.out.setCell (p := ⟨wa.heap.size, j, none⟩) (Nat.le_refl _) (.int .i64 (least : Int))
            clear hM
            go_wp2_with fail
            refine (HW.out x _).mono ?_
            rintro _ w3 ⟨rfl, hb⟩
            have HO3 := hid (hO1.below' hb)
            have HB3 := hid (held_next hB2 hb)
            clear hb hO1 hB2 q0 q1
            have q0 := HO3.out.cellv (i := j) (v := .int .i64 (least : Int)) (by rw [List.getElem?_set, if_pos rfl, if_pos (by rw [intsV_length, outJ_len (Nat.le_of_lt HJN.out) HNL.out]; exact HJN.out)])
            have q1 := HO3.out.frozen j
            go_wp2_with fail
            go_roundw
            case rel =>
              have hp : part left all (wN x) = M / all := by unfold part; rw [if_pos hall0, HM.out]
              have h1 := partsS_snoc (left := left) (all := all) HNX.out
              have h2 : partsS left all (ns.take (j + 1)) ≤ partsS left all ns := partsS_le
              have h3 := parts_le left ns
              rw [HALL.out] at h3
              have hd : (M : Int) / (all : Int) = ((M / all : Nat) : Int) := by simp
              rw [hp] at h1
              have h4 := outJ_snoc (least := least) (left := left) (all := all) HNX.out HNL.out
              rw [hp] at h4
              rw [hd]
              generalize M / all = q at *
              have hl2 : left ≤ 2147483648 := by omega
              have hq2 : q ≤ 2147483648 := by omega
              have hs2 : partsS left all (ns.take j) + q ≤ left := by omega
              refine ⟨j + 1, HJN.out, by go_num, ?_, ?_, HB3.out.setCell (Nat.le_refl _) _⟩
              · rw [w64n hq2, h1, rest_step hs2 hl2]
              · have h5 := HO3.out.set j (.int .i64 ((least + q : Nat) : Int))
                rw [List.set_set, intsV_set, h4] at h5
                rw [w64n hq2, w64add (Nat.le_trans hl1 (by decide)) hq2]
                exact h5
            case measure => have := HJN.out; simp only [intOf]; omega
          · have a0 : ¬ (0 : Int) < (all : Int) := by omega
            have hO1 := hid (HO.out.set j (.int .i64 (least : Int)))
            have hB2 := hid (HB1.out.setCell (p := ⟨wa.heap.size, j, none⟩) (Nat.le_refl _) (.int .i64 (least : Int)))
            go_wp2_with fail
            go_roundw
            case rel =>
              have hp : part left all (wN x) = 0 := by unfold part; rw [if_neg hall0]
              have h1 := partsS_snoc (left := left) (all := all) HNX.out
              have h4 := outJ_snoc (least := least) (left := left) (all := all) HNX.out HNL.out
              rw [hp, Nat.add_zero] at h1 h4
              have h5 := hO1.out
              rw [intsV_set, h4] at h5
              refine ⟨j + 1, HJN.out, by go_num, ?_, h5, hB2.out⟩
              rw [h1, Nat.add_zero]
            case measure => have := HJN.out; simp only [intOf]; omega
        · have hjj : j = n := by omega
          subst hjj
          have c4 : ¬ (j : Int) < (j : Int) := by omega
          have hO := HO.out
          rw [outJ_all HNL.out] at hO
          rw [show ns.take j = ns from List.take_of_length_le (by rw [HNL.out]; omega)]
          have hpl := parts_le left ns
          rw [HALL.out] at hpl
          obtain ⟨r, hr⟩ : ∃ r, left - partsS left all ns = r := ⟨_, rfl⟩
          have HR0 := hid hr
          rw [hr]
          obtain ⟨os, hos⟩ : ∃ os, ns.map (fun n => least + part left all n) = os := ⟨_, rfl⟩
          have HOS := hid hos
          have HOL := hid (show os.length = j by rw [← hos, List.length_map, HNL.out])
          rw [hos] at hO
          have HO2 := hid hO
          have HSH := hid (show shareL total least ns = if all = 0 then headMore r os else more r ns os by unfold shareL; simp only [HNL.out, hleft, HALL.out, hr, hos])
          clear hO hr hos HO
          by_cases hall0 : 0 < all
          · have a0 : ((all : Int) == 0) = false := by rw [beq_eq_false_iff_ne]; omega
            have a1 : ¬ (all : Int) = 0 := by omega
            have HA := hid (show ¬ all = 0 by omega)
            rename World => wb
            go_wp2_with fail
            go_loopw [12, 88] (fun rest i w' => P2Rel wa wa.heap.size ns os r j rest i w') (fun _ i _ => j - (intOf i).toNat)
            case atStart => exact ⟨0, Nat.zero_le _, rfl, by simp [restA], by rw [moreJ_zero]; exact HO2.out, HB1.out⟩
            case round =>
              obtain ⟨k, hk, rfl, rfl, hO, hB⟩ := hrel
              have HO := hid hO
              have HB2 := hid hB
              have HBW2 := hid (HBW.out.trans (hB.mono HBW.out.size))
              have hra := restA_le r (ns.take k)
              obtain ⟨ra, hra0⟩ : ∃ ra, restA r (ns.take k) = ra := ⟨_, rfl⟩
              have HRA := hid hra0
              rw [hra0] at hra ⊢
              have hrl : r ≤ left := by have := HR0.out; omega
              clear hO hB hra0
              by_cases hkn : k < j
              · obtain ⟨x, hx⟩ : ∃ x, xs[k]? = some x := ⟨_, List.getElem?_eq_getElem (by rw [HN.out]; exact hkn)⟩
                obtain ⟨o, ho⟩ : ∃ o, os[k]? = some o := ⟨_, List.getElem?_eq_getElem (by rw [HOL.out]; exact hkn)⟩
                have HOK := hid ho
                obtain ⟨bx, ox, qx, hvx, _, _, lx, sx⟩ := HR.out.get flEn_len (by decide) hx
                injection hvx with a1 a2 a3
                subst a1 a3
                have y0 : wr.cell? ⟨bx, ox + k, none⟩ = some (.float .f64 x) := by
                  have y := (HBW2.out.cell (p := ⟨bx, ox + k * 1, none⟩) lx).trans (sx 0 _ rfl)
                  rwa [Nat.mul_one] at y
                have hnx : ns[k]? = some (wN x) := by rw [← HNS.out]; simp [hx]
                have HNX := hid hnx
                have hwx := wN_le x
                have hgt := wd_gt hwx
                have j0 : (0 : Int) ≤ (k : Int) := by omega
                have j1 : (k : Int) < (j : Int) := by omega
                have e3 : IntKind.i64.wrap ((k : Int) + 1) = (k : Int) + 1 := by rw [IntKind.wrap_i64]; omega
                have hlen : ns.length = os.length := by rw [HNL.out, HOL.out]
                have q0 := HO.out.cellv (intsV_get (moreJ_get (r := r) hlen ho))
                have q1 := HO.out.frozen k
                have HKJ := hid hkn
                have HSN := hid (moreJ_snoc (r := r) hlen hnx ho)
                have HRS := hid (restA_take (r := r) hnx)
                rw [HRA.out] at HSN HRS
                clear a2 sx lx hx hkn hnx ho hlen
                by_cases hra1 : 0 < ra
                · have b0 : (0 : Int) < (ra : Int) := by omega
                  have HBLE := hid (show o ≤ 2147483647 ∧ ra ≤ 2147483648 by
                    refine ⟨?_, by omega⟩
                    have h1 := HOS.out
                    have h2 := HOK.out
                    rw [← h1, List.getElem?_map, HNX.out] at h2
                    simp only [Option.map_some, Option.some.injEq] at h2
                    have h3 : part left all (wN x) ≤ left := by
                      have h4 := partsS_snoc (left := left) (all := all) HNX.out
                      have h5 : partsS left all (ns.take (k + 1)) ≤ partsS left all ns := partsS_le
                      omega
                    omega)
                  go_wp2_with fail
                  refine (HW.out x _).mono ?_
                  rintro _ w3 ⟨rfl, hb⟩
                  have HO3 := hid (HO.out.below' hb)
                  have HB3 := hid (held_next HB2.out hb)
                  have hF : FloatKind.f64.format = Ieee.double := rfl
                  clear hb q0 q1
                  by_cases hw0 : 0 < wN x
                  · rw [decide_eq_true hw0] at hgt
                    rw [if_pos ⟨hra1, hw0⟩] at HSN HRS
                    have q0 := HO3.out.cellv (intsV_get (moreJ_get (r := r) (by rw [HNL.out, HOL.out]) HOK.out))
                    have q1 := HO3.out.frozen k
                    have hO4 := hid (HO3.out.set k (.int .i64 ((o + 1 : Nat) : Int)))
                    clear hw0
                    go_wp2_with fail
                    go_roundw
                    case rel =>
                      refine ⟨k + 1, HKJ.out, by go_num, ?_, ?_, HB3.out.setCell (Nat.le_refl _) _⟩
                      · rw [HRS.out, show ((ra : Int) - 1) = ((ra - 1 : Nat) : Int) by omega]
                      · have h5 := hO4.out
                        rw [intsV_set, ← HSN.out] at h5
                        rw [w64succ HBLE.out.1]
                        exact h5
                    case measure => have := HKJ.out; simp only [intOf]; omega
                  · rw [decide_eq_false hw0] at hgt
                    rw [if_neg (fun k => hw0 k.2), set_same (moreJ_get (r := r) (by rw [HNL.out, HOL.out]) HOK.out)] at HSN
                    rw [if_neg (fun k => hw0 k.2)] at HRS
                    clear hw0
                    go_wp2_with fail
                    go_roundw
                    case rel => exact ⟨k + 1, HKJ.out, by go_num, by rw [HRS.out], by rw [HSN.out]; exact HO3.out, HB3.out⟩
                    case measure => have := HKJ.out; simp only [intOf]; omega
                · have b0 : ¬ (0 : Int) < (ra : Int) := by omega
                  rw [if_neg (fun k => hra1 k.1), set_same (moreJ_get (r := r) (by rw [HNL.out, HOL.out]) HOK.out)] at HSN
                  rw [if_neg (fun k => hra1 k.1)] at HRS
                  go_wp2_with fail
                  go_roundw
                  case rel => exact ⟨k + 1, HKJ.out, by go_num, by rw [HRS.out], by rw [HSN.out]; exact HO.out, HB2.out⟩
                  case measure => have := HKJ.out; simp only [intOf]; omega
              · have hkj : k = j := by omega
                subst hkj
                have c5 : ¬ (k : Int) < (k : Int) := by omega
                go_wp2_with fail
                go_ret2
                refine ⟨⟨_, rfl, ?_⟩, HBW2.out⟩
                rw [HNS.out, HSH.out, if_neg HA.out]
                have h5 := HO.out
                have h6 := moreJ_all (r := r) (show ns.length = os.length by rw [HNL.out, HOL.out])
                rw [HNL.out] at h6
                rw [h6] at h5
                exact own_of h5 (by have := HBW.out.size; omega) (by rw [intsV_length, more_len _ _ _ (by rw [HNL.out, HOL.out]), HNL.out]) (by unfold maxLen; omega)
          · have a2 : all = 0 := by omega
            subst a2
            obtain ⟨o, os', ho⟩ : ∃ o os', os = o :: os' := by
              cases os with
              | nil => have := HOL.out; simp at this; omega
              | cons o os' => exact ⟨o, os', rfl⟩
            subst ho
            have q0 := HO2.out.cellv (i := 0) (v := .int .i64 (o : Int)) rfl
            have q1 := HO2.out.frozen 0
            have hob : o = least := by
              have := HOS.out
              cases ns with
              | nil => simp at this
              | cons m ns => rw [List.map_cons] at this; injection this with h1 _; rw [← h1]; unfold part; simp
            have i0 : (0 : Int) < (j : Int) := by omega
            go_wp2_with fail
            go_ret2
            refine ⟨⟨_, rfl, ?_⟩, ?_⟩
            · have hrl : r ≤ left := by have := HR0.out; omega
              rw [HNS.out, HSH.out, if_pos trivial]
              have h5 := HO2.out.set 0 (.int .i64 ((o + r : Nat) : Int))
              rw [intsV_set] at h5
              rw [← hob, w64add (by omega) (by omega)]
              exact own_of h5 (by have := HBW.out.size; omega) (by rw [intsV_length]; simpa [headMore] using HOL.out) (by unfold maxLen; omega)
            · exact HBW1.out.setCell (by have := HBW.out.size; simpa using this) _
end Go.Proofs.Ytcnecjjgnnkjkaa
