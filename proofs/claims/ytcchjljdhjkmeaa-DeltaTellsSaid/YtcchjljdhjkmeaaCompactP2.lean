/-
  Of prefixes in a block, alike neighbours left out but the first: the walk of slices.Compact. No condition but that there are no more than a thousand million.
-/
import Derived.Test.YtcchjljdhjkmeaaCompactP
namespace Go.Proofs.Ytcchjljdhjkmeaa
open Go.RowKit
set_option linter.unusedVariables false
set_option linter.unusedSimpArgs false
set_option maxRecDepth 100000
attribute [local go_sem high] eq_ad eq_pf

theorem pf_bne {p q : Pf} (h : p ≠ q) : ((((p.1.1 : Nat) : Int) == (q.1.1 : Int) && (((p.1.2 : Nat) : Int) == (q.1.2 : Int))) && (p.2 == q.2)) = false := by rw [pf_beq]; exact decide_eq_false h
set_option maxHeartbeats 4000000 in
theorem pf_compact {w : World} {g cap n : Nat} {U : List Pf} {Z : List Value} (H : RowP w g U Z) (hn : U.length = n) (hc : n ≤ cap) (hcm : n ≤ 4000000000000000000 ∧ cap ≤ 9223372036854775807) (hnm : n ≤ 1000000000) :
    Calls Try.prog 49 #[.slice (some ⟨g, 0, none⟩) n cap] w (PoPost g cap U Z w) := by
  have HN := hid hn
  have hnI : (n : Int) ≤ 1000000000 := by omega
  have hcI : (cap : Int) ≤ 9223372036854775807 := by omega
  have hg := guard_pf
  by_cases h2 : n < 2
  · have hU : compL U = U := by
      rcases U with _ | ⟨x, _ | ⟨y, U⟩⟩
      · rfl
      · rfl
      · simp at hn; omega
    have HF := hid (show PoPost g cap U Z w (.returned (.slice (some ⟨g, 0, none⟩) n cap)) w from ⟨by rw [hU, hn], Z, by rw [hU]; exact H, by rw [hU], Chg.refl _ _⟩)
    have c1 : (n : Int) < 2 := by omega
    clear H hn hU h2
    go_enter Try.func49, Try.ntmps49
    go_wp2_with fail
    go_ret
    exact HF.out
  · obtain ⟨x0, R0, hU⟩ : ∃ x R, U = x :: R := by
      rcases U with _ | ⟨x, U⟩
      · simp at hn; omega
      · exact ⟨x, U, rfl⟩
    have H0 := hid (show PoSt g U Z 1 w w [] x0 R0 from ⟨hU, rfl, by rw [hU]; rfl, H, Chg.refl _ _⟩)
    have c1 : ¬ (n : Int) < 2 := by omega
    clear H hn hU h2
    go_enter Try.func49, Try.ntmps49
    go_wp2_with fail
    go_loopw [3] (fun iv wr => PoRel g U Z w iv wr) (fun iv _ => n - (intOf iv).toNat)
    case atStart => exact ⟨1, [], x0, R0, by go_num, H0.out⟩
    case round =>
      obtain ⟨k, D, x, R, rfl, hS⟩ := hrel
      clear H0
      have hk := hS.kk
      have hN := HN.out
      have hu := hS.u
      cases R with
      | nil =>
        have hkn : k = n := by rw [hu] at hN; simp at hN; omega
        have HF := hid (show PoPost g cap U Z w (.returned (.slice (some ⟨g, 0, none⟩) n cap)) wr from ⟨by rw [hS.done, hN], Z, by rw [hS.done]; exact hS.r, by rw [hS.done], hS.h⟩)
        subst hkn
        clear hS hk hN hu
        go_wp2_with fail
        go_ret
        exact HF.out
      | cons y R =>
        obtain ⟨p, hp⟩ : ∃ p, D.length = p := ⟨_, rfl⟩
        have hkn : k < n := by rw [hu] at hN; simp at hN; omega
        have hx1 : U[p]? = some x := by rw [hu]; exact at_pre hp.symm
        have hy1 : U[k]? = some y := by
          have e : D ++ x :: y :: R = (D ++ [x]) ++ y :: R := by simp
          rw [hu, e]; exact at_pre (by simp; omega)
        have HX := hid (hS.r.cells hx1)
        have HY := hid (hS.r.cells hy1)
        have HST := hid hS
        have e1 : (k : Int) - 1 = (p : Int) := by omega
        have e2 : IntKind.i64.wrap ((k : Int) - 1) = (p : Int) := by rw [IntKind.wrap_i64]; omega
        have e4 : IntKind.i64.wrap (p : Int) = (p : Int) := by rw [IntKind.wrap_i64]; omega
        have e3 : IntKind.i64.wrap ((k : Int) + 1) = (k : Int) + 1 := by rw [IntKind.wrap_i64]; omega
        have j0 : (0 : Int) ≤ (k : Int) := by omega
        have j1 : (k : Int) < (n : Int) := by omega
        have p0 : (0 : Int) ≤ (p : Int) := by omega
        have p1 : (p : Int) < (n : Int) := by omega
        have HKN := hid hkn
        have k1 : (k : Int) ≤ (n : Int) := by omega
        have k2 : (n : Int) ≤ (cap : Int) := by omega
        have k3 : ¬ cap = k := by omega
        clear hS hk hN hu hx1 hy1 hp hkn
        by_cases hyx : y = x
        · subst hyx
          obtain ⟨⟨x1, x2⟩, x3⟩ := y
          have HI := hid (HST.out.inner rfl)
          obtain ⟨m, hm⟩ : ∃ m, n - k = m := ⟨_, rfl⟩
          obtain ⟨c', hc'⟩ : ∃ c', cap - k = c' := ⟨_, rfl⟩
          have m1 : (m : Int) ≤ 1000000000 := by omega
          have HM := hid hm
          go_wp2_with fail
          have hS : (wr.drew.cell? ⟨g, k * 3, none⟩ = some (.int .u64 (x1 : Int)) ∧ wr.drew.cell? ⟨g, k * 3 + 1, none⟩ = some (.int .u64 (x2 : Int)) ∧ wr.drew.cell? ⟨g, k * 3 + 2, none⟩ = some (.int .i64 x3)) ∧ (wr.drew.cell? ⟨g, p * 3, none⟩ = some (.int .u64 (x1 : Int)) ∧ wr.drew.cell? ⟨g, p * 3 + 1, none⟩ = some (.int .u64 (x2 : Int)) ∧ wr.drew.cell? ⟨g, p * 3 + 2, none⟩ = some (.int .i64 x3)) := ⟨HY.out, HX.out⟩
          refine wp_region_ord (fun w' => (w'.cell? ⟨g, k * 3, none⟩ = some (.int .u64 (x1 : Int)) ∧ w'.cell? ⟨g, k * 3 + 1, none⟩ = some (.int .u64 (x2 : Int)) ∧ w'.cell? ⟨g, k * 3 + 2, none⟩ = some (.int .i64 x3)) ∧ (w'.cell? ⟨g, p * 3, none⟩ = some (.int .u64 (x1 : Int)) ∧ w'.cell? ⟨g, p * 3 + 1, none⟩ = some (.int .u64 (x2 : Int)) ∧ w'.cell? ⟨g, p * 3 + 2, none⟩ = some (.int .i64 x3))) (by kernel_rfl) hS ?_
          refine ord_still 0 rfl (v := ?_) (by kernel_rfl) (fun _ _ _ h => h) rfl (fun W hW => ?_) hS ?_
          rotate_left
          · try dsimp only at hW
            go_simp
            try with_reducible rfl
          simp only [Act.put, List.setIfInBounds_toArray, List.set_cons_zero, List.set_cons_succ]
          refine ord_still 1 rfl (v := ?_) (by kernel_rfl) (fun _ _ _ h => h) rfl (fun W hW => ?_) hS ?_
          rotate_left
          · try dsimp only at hW
            go_simp
            try with_reducible rfl
          simp only [Act.put, List.setIfInBounds_toArray, List.set_cons_zero, List.set_cons_succ]
          refine ord_still 2 rfl (v := ?_) (by kernel_rfl) (fun _ _ _ h => h) rfl (fun W hW => ?_) hS ?_
          rotate_left
          · try dsimp only at hW
            go_simp
            try with_reducible rfl
          simp only [Act.put, List.setIfInBounds_toArray, List.set_cons_zero, List.set_cons_succ]
          refine ord_still 3 rfl (v := ?_) (by kernel_rfl) (fun _ _ _ h => h) rfl (fun W hW => ?_) hS ?_
          rotate_left
          · try dsimp only at hW
            go_simp
            try with_reducible rfl
          simp only [Act.put, List.setIfInBounds_toArray, List.set_cons_zero, List.set_cons_succ]
          refine ord_still 4 rfl (v := ?_) (by kernel_rfl) (fun _ _ _ h => h) rfl (fun W hW => ?_) hS ?_
          rotate_left
          · try dsimp only at hW
            go_simp
            try with_reducible rfl
          simp only [Act.put, List.setIfInBounds_toArray, List.set_cons_zero, List.set_cons_succ]
          refine ord_still 5 rfl (v := ?_) (by kernel_rfl) (fun _ _ _ h => h) rfl (fun W hW => ?_) hS ?_
          rotate_left
          · try dsimp only at hW
            go_simp
            try with_reducible rfl
          simp only [Act.put, List.setIfInBounds_toArray, List.set_cons_zero, List.set_cons_succ]
          refine ord_still 6 rfl (v := ?_) (by kernel_rfl) (fun _ _ _ h => h) rfl (fun W hW => ?_) hS ?_
          rotate_left
          · try dsimp only at hW
            go_simp
            try with_reducible rfl
          simp only [Act.put, List.setIfInBounds_toArray, List.set_cons_zero, List.set_cons_succ]
          refine ord_still 7 rfl (v := ?_) (by kernel_rfl) (fun _ _ _ h => h) rfl (fun W hW => ?_) hS ?_
          rotate_left
          · try dsimp only at hW
            go_simp
            try with_reducible rfl
          simp only [Act.put, List.setIfInBounds_toArray, List.set_cons_zero, List.set_cons_succ]
          refine ord_still 8 rfl (v := ?_) (by kernel_rfl) (fun _ _ _ h => h) rfl (fun W hW => ?_) hS ?_
          rotate_left
          · try dsimp only at hW
            go_simp
            try with_reducible rfl
          simp only [Act.put, List.setIfInBounds_toArray, List.set_cons_zero, List.set_cons_succ]
          refine ord_still 9 rfl (v := ?_) (by kernel_rfl) (fun _ _ _ h => h) rfl (fun W hW => ?_) hS ?_
          rotate_left
          · try dsimp only at hW
            go_simp
            try with_reducible rfl
          simp only [Act.put, List.setIfInBounds_toArray, List.set_cons_zero, List.set_cons_succ]
          refine ord_done (by kernel_rfl) ?_
          clear hS HY HX HST e1 e2 e4 p0 p1
          go_wp2_with fail
          first | rw [hm, hc'] | skip
          clear hm hc'
          go_loopw [3, 5] (fun kv jv wr => PiRel g U Z k w kv jv wr) (fun _ jv _ => n - (intOf jv).toNat)
          case atStart => exact ⟨k, 1, _, _, _, _, by go_num, by go_num, HI.out⟩
          case round =>
            obtain ⟨kk, j, K, J, y, R, rfl, rfl, hS⟩ := hrel
            clear HI
            have hN := HN.out
            have hK := HKN.out
            have hj := hS.jj
            have hkk := hS.kk
            have hnn := hS.n
            have hM := HM.out
            cases R with
            | nil =>
              have hjm : j = m := by simp at hnn; omega
              have hzl := zeros_len (#[.int .u64 0, .int .u64 0, .int .i64 0] : Array Value) (n - kk)
              obtain ⟨zs, hzs⟩ : ∃ zs, (Builtin.zeroCells (Value.agg #[.int .u64 0, .int .u64 0, .int .i64 0]).cells (n - kk)).toList = zs := ⟨_, rfl⟩
              have hz1 : ∀ v ∈ zs, v.oneCell' = true := by
                rw [← hzs]; exact zeros_one (by intro u hu; simp [Value.cells] at hu; rcases hu with rfl | rfl <;> rfl) (by decide) _
              have HZL := hid (show zs.length = (n - kk) * 3 by rw [← hzs]; exact hzl)
              have HFIN := hid (fun (w' : World) hB hC => hS.fin (zs := zs) (by rw [HZL.out, hN]) (w' := w') hB hC)
              have HR := hid (show Blk wr g 37 (pfsV (K ++ J ++ [y]) ++ Z) from hS.r)
              have HL := hid (show kk * 3 + zs.length ≤ (pfsV (K ++ J ++ [y]) ++ Z).length by rw [HZL.out, List.length_append, pfsV_len]; simp at hnn ⊢; omega)
              have HKK := hid (show K.length = kk ∧ kk < n from ⟨hkk, by simp at hnn; omega⟩)
              have HN0 := hid (show 0 < n - kk by simp at hnn; omega)
              have s0 : (0 : Int) ≤ (kk : Int) := by omega
              have s1 : (kk : Int) ≤ (n : Int) := by have := HKK.out.2; omega
              have s2 : ¬ cap = kk := by have := HKK.out.2; omega
              have s3 : (kk : Int) ≤ (cap : Int) := by omega
              have HZS := hid hzs
              subst hjm
              clear hS hj hkk hnn hzl hzs hK hM
              go_wp2_with (refine wpList_clear_m rfl _ 74 rfl 37 Try.underlying74 (.agg #[.int .u64 0, .int .u64 0, .int .i64 0]) (fun _ => by kernel_rfl) g (kk * 3) (n - kk) _ rfl HN0.out _ 37 HR.out zs HZS.out HL.out hz1 ?_)
              intro w7 hB7 hC7
              have hf := HFIN.out w7 (by simpa using hB7) hC7
              have HF := hid (show PoPost g cap U Z w (.returned (.slice (some ⟨g, 0, none⟩) kk cap)) w7 from ⟨by rw [hf.1, HKK.out.1], zs ++ Z, by rw [hf.1]; exact hf.2.1, by rw [hf.1, HKK.out.1]; exact hf.2.2.1, hf.2.2.2⟩)
              clear hf hB7 hC7 HFIN HR HL
              go_wp2_with fail
              go_ret
              exact HF.out
            | cons z R =>
              obtain ⟨q, hq⟩ : ∃ q, K.length + J.length = q := ⟨_, rfl⟩
              obtain ⟨p, hp⟩ : ∃ p, j = p + 1 := ⟨j - 1, by have := hS.j1; omega⟩
              have qe : q * 3 = k * 3 + p * 3 := by omega
              have je : (q + 1) * 3 = k * 3 + j * 3 := by omega
              have hy1 : (K ++ J ++ y :: z :: R)[q]? = some y := at_pre (by simp; omega)
              have hz1 : (K ++ J ++ y :: z :: R)[q + 1]? = some z := by
                have e : K ++ J ++ y :: z :: R = (K ++ J ++ [y]) ++ z :: R := by simp
                rw [e]; exact at_pre (by simp; omega)
              have hcy := hS.r.cells hy1
              have hcz := hS.r.cells hz1
              rw [qe] at hcy
              rw [je] at hcz
              have HY := hid hcy
              have HZ := hid hcz
              have HST := hid hS
              have e1 : (j : Int) - 1 = (p : Int) := by omega
              have e2 : IntKind.i64.wrap ((j : Int) - 1) = (p : Int) := by rw [IntKind.wrap_i64]; omega
              have e4 : IntKind.i64.wrap (p : Int) = (p : Int) := by rw [IntKind.wrap_i64]; omega
              have hjm : j < m := by simp at hnn; omega
              have i0 : (0 : Int) ≤ (j : Int) := by omega
              have i1 : (j : Int) < (m : Int) := by omega
              have e5 : IntKind.i64.wrap ((j : Int) + 1) = (j : Int) + 1 := by rw [IntKind.wrap_i64]; omega
              have p0 : (0 : Int) ≤ (p : Int) := by omega
              have p1 : (p : Int) < (m : Int) := by omega
              have hkn2 : kk < n := by simp at hnn; omega
              have k0 : (0 : Int) ≤ (kk : Int) := by omega
              have k9 : (kk : Int) < (n : Int) := by omega
              have HJM := hid hjm
              clear hS hN hK hM hkk hnn hj hy1 hz1 hp hjm qe je hq hkn2 hcy hcz
              by_cases hzy : z = y
              · subst hzy
                have HF6 := hid (HST.out.same rfl)
                obtain ⟨⟨x1, x2⟩, x3⟩ := z
                go_wp2_with fail
                have hS : (wr.drew.cell? ⟨g, k * 3 + j * 3, none⟩ = some (.int .u64 (x1 : Int)) ∧ wr.drew.cell? ⟨g, k * 3 + j * 3 + 1, none⟩ = some (.int .u64 (x2 : Int)) ∧ wr.drew.cell? ⟨g, k * 3 + j * 3 + 2, none⟩ = some (.int .i64 x3)) ∧ (wr.drew.cell? ⟨g, k * 3 + p * 3, none⟩ = some (.int .u64 (x1 : Int)) ∧ wr.drew.cell? ⟨g, k * 3 + p * 3 + 1, none⟩ = some (.int .u64 (x2 : Int)) ∧ wr.drew.cell? ⟨g, k * 3 + p * 3 + 2, none⟩ = some (.int .i64 x3)) := ⟨HZ.out, HY.out⟩
                refine wp_region_ord (fun w' => (w'.cell? ⟨g, k * 3 + j * 3, none⟩ = some (.int .u64 (x1 : Int)) ∧ w'.cell? ⟨g, k * 3 + j * 3 + 1, none⟩ = some (.int .u64 (x2 : Int)) ∧ w'.cell? ⟨g, k * 3 + j * 3 + 2, none⟩ = some (.int .i64 x3)) ∧ (w'.cell? ⟨g, k * 3 + p * 3, none⟩ = some (.int .u64 (x1 : Int)) ∧ w'.cell? ⟨g, k * 3 + p * 3 + 1, none⟩ = some (.int .u64 (x2 : Int)) ∧ w'.cell? ⟨g, k * 3 + p * 3 + 2, none⟩ = some (.int .i64 x3))) (by kernel_rfl) hS ?_
                refine ord_still 0 rfl (v := ?_) (by kernel_rfl) (fun _ _ _ h => h) rfl (fun W hW => ?_) hS ?_
                rotate_left
                · try dsimp only at hW
                  go_simp
                  try with_reducible rfl
                simp only [Act.put, List.setIfInBounds_toArray, List.set_cons_zero, List.set_cons_succ]
                refine ord_still 1 rfl (v := ?_) (by kernel_rfl) (fun _ _ _ h => h) rfl (fun W hW => ?_) hS ?_
                rotate_left
                · try dsimp only at hW
                  go_simp
                  try with_reducible rfl
                simp only [Act.put, List.setIfInBounds_toArray, List.set_cons_zero, List.set_cons_succ]
                refine ord_still 2 rfl (v := ?_) (by kernel_rfl) (fun _ _ _ h => h) rfl (fun W hW => ?_) hS ?_
                rotate_left
                · try dsimp only at hW
                  go_simp
                  try with_reducible rfl
                simp only [Act.put, List.setIfInBounds_toArray, List.set_cons_zero, List.set_cons_succ]
                refine ord_still 3 rfl (v := ?_) (by kernel_rfl) (fun _ _ _ h => h) rfl (fun W hW => ?_) hS ?_
                rotate_left
                · try dsimp only at hW
                  go_simp
                  try with_reducible rfl
                simp only [Act.put, List.setIfInBounds_toArray, List.set_cons_zero, List.set_cons_succ]
                refine ord_still 4 rfl (v := ?_) (by kernel_rfl) (fun _ _ _ h => h) rfl (fun W hW => ?_) hS ?_
                rotate_left
                · try dsimp only at hW
                  go_simp
                  try with_reducible rfl
                simp only [Act.put, List.setIfInBounds_toArray, List.set_cons_zero, List.set_cons_succ]
                refine ord_still 5 rfl (v := ?_) (by kernel_rfl) (fun _ _ _ h => h) rfl (fun W hW => ?_) hS ?_
                rotate_left
                · try dsimp only at hW
                  go_simp
                  try with_reducible rfl
                simp only [Act.put, List.setIfInBounds_toArray, List.set_cons_zero, List.set_cons_succ]
                refine ord_still 6 rfl (v := ?_) (by kernel_rfl) (fun _ _ _ h => h) rfl (fun W hW => ?_) hS ?_
                rotate_left
                · try dsimp only at hW
                  go_simp
                  try with_reducible rfl
                simp only [Act.put, List.setIfInBounds_toArray, List.set_cons_zero, List.set_cons_succ]
                refine ord_still 7 rfl (v := ?_) (by kernel_rfl) (fun _ _ _ h => h) rfl (fun W hW => ?_) hS ?_
                rotate_left
                · try dsimp only at hW
                  go_simp
                  try with_reducible rfl
                simp only [Act.put, List.setIfInBounds_toArray, List.set_cons_zero, List.set_cons_succ]
                refine ord_still 8 rfl (v := ?_) (by kernel_rfl) (fun _ _ _ h => h) rfl (fun W hW => ?_) hS ?_
                rotate_left
                · try dsimp only at hW
                  go_simp
                  try with_reducible rfl
                simp only [Act.put, List.setIfInBounds_toArray, List.set_cons_zero, List.set_cons_succ]
                refine ord_still 9 rfl (v := ?_) (by kernel_rfl) (fun _ _ _ h => h) rfl (fun W hW => ?_) hS ?_
                rotate_left
                · try dsimp only at hW
                  go_simp
                  try with_reducible rfl
                simp only [Act.put, List.setIfInBounds_toArray, List.set_cons_zero, List.set_cons_succ]
                refine ord_done (by kernel_rfl) ?_
                clear hS HY HZ HST e1 e2 e4 p0 p1
                go_wp2_with fail
                go_roundw
                case rel => exact ⟨kk, j + 1, _, _, _, _, rfl, by go_num, HF6.out⟩
                case measure => have := HJM.out; have := HM.out; simp [intOf]; omega
              · obtain ⟨J', hJ'⟩ := HST.out.new hzy
                have HF6 := hid hJ'
                have hE := pf_bne hzy
                obtain ⟨⟨x1, x2⟩, x3⟩ := y
                obtain ⟨⟨z1, z2⟩, z3⟩ := z
                simp only at hE
                have HRR := hid HST.out.r
                have HKL := hid HST.out.kk
                clear hzy hJ'
                go_wp2_with fail
                have hS : (wr.drew.cell? ⟨g, k * 3 + j * 3, none⟩ = some (.int .u64 (z1 : Int)) ∧ wr.drew.cell? ⟨g, k * 3 + j * 3 + 1, none⟩ = some (.int .u64 (z2 : Int)) ∧ wr.drew.cell? ⟨g, k * 3 + j * 3 + 2, none⟩ = some (.int .i64 z3)) ∧ (wr.drew.cell? ⟨g, k * 3 + p * 3, none⟩ = some (.int .u64 (x1 : Int)) ∧ wr.drew.cell? ⟨g, k * 3 + p * 3 + 1, none⟩ = some (.int .u64 (x2 : Int)) ∧ wr.drew.cell? ⟨g, k * 3 + p * 3 + 2, none⟩ = some (.int .i64 x3)) := ⟨HZ.out, HY.out⟩
                refine wp_region_ord (fun w' => (w'.cell? ⟨g, k * 3 + j * 3, none⟩ = some (.int .u64 (z1 : Int)) ∧ w'.cell? ⟨g, k * 3 + j * 3 + 1, none⟩ = some (.int .u64 (z2 : Int)) ∧ w'.cell? ⟨g, k * 3 + j * 3 + 2, none⟩ = some (.int .i64 z3)) ∧ (w'.cell? ⟨g, k * 3 + p * 3, none⟩ = some (.int .u64 (x1 : Int)) ∧ w'.cell? ⟨g, k * 3 + p * 3 + 1, none⟩ = some (.int .u64 (x2 : Int)) ∧ w'.cell? ⟨g, k * 3 + p * 3 + 2, none⟩ = some (.int .i64 x3))) (by kernel_rfl) hS ?_
                refine ord_still 0 rfl (v := ?_) (by kernel_rfl) (fun _ _ _ h => h) rfl (fun W hW => ?_) hS ?_
                rotate_left
                · try dsimp only at hW
                  go_simp
                  try with_reducible rfl
                simp only [Act.put, List.setIfInBounds_toArray, List.set_cons_zero, List.set_cons_succ]
                refine ord_still 1 rfl (v := ?_) (by kernel_rfl) (fun _ _ _ h => h) rfl (fun W hW => ?_) hS ?_
                rotate_left
                · try dsimp only at hW
                  go_simp
                  try with_reducible rfl
                simp only [Act.put, List.setIfInBounds_toArray, List.set_cons_zero, List.set_cons_succ]
                refine ord_still 2 rfl (v := ?_) (by kernel_rfl) (fun _ _ _ h => h) rfl (fun W hW => ?_) hS ?_
                rotate_left
                · try dsimp only at hW
                  go_simp
                  try with_reducible rfl
                simp only [Act.put, List.setIfInBounds_toArray, List.set_cons_zero, List.set_cons_succ]
                refine ord_still 3 rfl (v := ?_) (by kernel_rfl) (fun _ _ _ h => h) rfl (fun W hW => ?_) hS ?_
                rotate_left
                · try dsimp only at hW
                  go_simp
                  try with_reducible rfl
                simp only [Act.put, List.setIfInBounds_toArray, List.set_cons_zero, List.set_cons_succ]
                refine ord_still 4 rfl (v := ?_) (by kernel_rfl) (fun _ _ _ h => h) rfl (fun W hW => ?_) hS ?_
                rotate_left
                · try dsimp only at hW
                  go_simp
                  try with_reducible rfl
                simp only [Act.put, List.setIfInBounds_toArray, List.set_cons_zero, List.set_cons_succ]
                refine ord_still 5 rfl (v := ?_) (by kernel_rfl) (fun _ _ _ h => h) rfl (fun W hW => ?_) hS ?_
                rotate_left
                · try dsimp only at hW
                  go_simp
                  try with_reducible rfl
                simp only [Act.put, List.setIfInBounds_toArray, List.set_cons_zero, List.set_cons_succ]
                refine ord_still 6 rfl (v := ?_) (by kernel_rfl) (fun _ _ _ h => h) rfl (fun W hW => ?_) hS ?_
                rotate_left
                · try dsimp only at hW
                  go_simp
                  try with_reducible rfl
                simp only [Act.put, List.setIfInBounds_toArray, List.set_cons_zero, List.set_cons_succ]
                refine ord_still 7 rfl (v := ?_) (by kernel_rfl) (fun _ _ _ h => h) rfl (fun W hW => ?_) hS ?_
                rotate_left
                · try dsimp only at hW
                  go_simp
                  try with_reducible rfl
                simp only [Act.put, List.setIfInBounds_toArray, List.set_cons_zero, List.set_cons_succ]
                refine ord_still 8 rfl (v := ?_) (by kernel_rfl) (fun _ _ _ h => h) rfl (fun W hW => ?_) hS ?_
                rotate_left
                · try dsimp only at hW
                  go_simp
                  try with_reducible rfl
                simp only [Act.put, List.setIfInBounds_toArray, List.set_cons_zero, List.set_cons_succ]
                refine ord_still 9 rfl (v := ?_) (by kernel_rfl) (fun _ _ _ h => h) rfl (fun W hW => ?_) hS ?_
                rotate_left
                · try dsimp only at hW
                  go_simp
                  try with_reducible rfl
                simp only [Act.put, List.setIfInBounds_toArray, List.set_cons_zero, List.set_cons_succ]
                refine ord_done (by kernel_rfl) ?_
                clear hS
                obtain ⟨c0, c1, c2⟩ := HZ.out
                have f0 := HRR.out.frozen (kk * 3)
                have f1 := HRR.out.frozen (kk * 3 + 1)
                have f2 := HRR.out.frozen (kk * 3 + 2)
                obtain ⟨t0, t1, t2⟩ : (∃ u, wr.cell? ⟨g, kk * 3, none⟩ = some u) ∧ (∃ u, wr.cell? ⟨g, kk * 3 + 1, none⟩ = some u) ∧ (∃ u, wr.cell? ⟨g, kk * 3 + 2, none⟩ = some u) := by
                  have hlt : kk < (K ++ J ++ (((x1, x2), x3) : Pf) :: (((z1, z2), z3) : Pf) :: R).length := by have := HKL.out; simp; omega
                  obtain ⟨a0, a1, a2⟩ := HRR.out.cells (List.getElem?_eq_getElem hlt)
                  exact ⟨⟨_, a0⟩, ⟨_, a1⟩, ⟨_, a2⟩⟩
                obtain ⟨u0, t0⟩ := t0
                obtain ⟨u1, t1⟩ := t1
                obtain ⟨u2, t2⟩ := t2
                clear HY HZ HST e1 e2 e4 p0 p1 HRR
                go_wp2_with fail
                go_roundw
                case rel => exact ⟨kk + 1, j + 1, _, _, _, _, by go_num, by go_num, HF6.out⟩
                case measure => have := HJM.out; have := HM.out; simp [intOf]; omega
        · have HF6 := hid (HST.out.next hyx)
          have hE := pf_bne hyx
          obtain ⟨⟨x1, x2⟩, x3⟩ := x
          obtain ⟨⟨y1, y2⟩, y3⟩ := y
          simp only at hE
          clear hyx
          go_wp2_with fail
          have hS : (wr.drew.cell? ⟨g, k * 3, none⟩ = some (.int .u64 (y1 : Int)) ∧ wr.drew.cell? ⟨g, k * 3 + 1, none⟩ = some (.int .u64 (y2 : Int)) ∧ wr.drew.cell? ⟨g, k * 3 + 2, none⟩ = some (.int .i64 y3)) ∧ (wr.drew.cell? ⟨g, p * 3, none⟩ = some (.int .u64 (x1 : Int)) ∧ wr.drew.cell? ⟨g, p * 3 + 1, none⟩ = some (.int .u64 (x2 : Int)) ∧ wr.drew.cell? ⟨g, p * 3 + 2, none⟩ = some (.int .i64 x3)) := ⟨HY.out, HX.out⟩
          refine wp_region_ord (fun w' => (w'.cell? ⟨g, k * 3, none⟩ = some (.int .u64 (y1 : Int)) ∧ w'.cell? ⟨g, k * 3 + 1, none⟩ = some (.int .u64 (y2 : Int)) ∧ w'.cell? ⟨g, k * 3 + 2, none⟩ = some (.int .i64 y3)) ∧ (w'.cell? ⟨g, p * 3, none⟩ = some (.int .u64 (x1 : Int)) ∧ w'.cell? ⟨g, p * 3 + 1, none⟩ = some (.int .u64 (x2 : Int)) ∧ w'.cell? ⟨g, p * 3 + 2, none⟩ = some (.int .i64 x3))) (by kernel_rfl) hS ?_
          refine ord_still 0 rfl (v := ?_) (by kernel_rfl) (fun _ _ _ h => h) rfl (fun W hW => ?_) hS ?_
          rotate_left
          · try dsimp only at hW
            go_simp
            try with_reducible rfl
          simp only [Act.put, List.setIfInBounds_toArray, List.set_cons_zero, List.set_cons_succ]
          refine ord_still 1 rfl (v := ?_) (by kernel_rfl) (fun _ _ _ h => h) rfl (fun W hW => ?_) hS ?_
          rotate_left
          · try dsimp only at hW
            go_simp
            try with_reducible rfl
          simp only [Act.put, List.setIfInBounds_toArray, List.set_cons_zero, List.set_cons_succ]
          refine ord_still 2 rfl (v := ?_) (by kernel_rfl) (fun _ _ _ h => h) rfl (fun W hW => ?_) hS ?_
          rotate_left
          · try dsimp only at hW
            go_simp
            try with_reducible rfl
          simp only [Act.put, List.setIfInBounds_toArray, List.set_cons_zero, List.set_cons_succ]
          refine ord_still 3 rfl (v := ?_) (by kernel_rfl) (fun _ _ _ h => h) rfl (fun W hW => ?_) hS ?_
          rotate_left
          · try dsimp only at hW
            go_simp
            try with_reducible rfl
          simp only [Act.put, List.setIfInBounds_toArray, List.set_cons_zero, List.set_cons_succ]
          refine ord_still 4 rfl (v := ?_) (by kernel_rfl) (fun _ _ _ h => h) rfl (fun W hW => ?_) hS ?_
          rotate_left
          · try dsimp only at hW
            go_simp
            try with_reducible rfl
          simp only [Act.put, List.setIfInBounds_toArray, List.set_cons_zero, List.set_cons_succ]
          refine ord_still 5 rfl (v := ?_) (by kernel_rfl) (fun _ _ _ h => h) rfl (fun W hW => ?_) hS ?_
          rotate_left
          · try dsimp only at hW
            go_simp
            try with_reducible rfl
          simp only [Act.put, List.setIfInBounds_toArray, List.set_cons_zero, List.set_cons_succ]
          refine ord_still 6 rfl (v := ?_) (by kernel_rfl) (fun _ _ _ h => h) rfl (fun W hW => ?_) hS ?_
          rotate_left
          · try dsimp only at hW
            go_simp
            try with_reducible rfl
          simp only [Act.put, List.setIfInBounds_toArray, List.set_cons_zero, List.set_cons_succ]
          refine ord_still 7 rfl (v := ?_) (by kernel_rfl) (fun _ _ _ h => h) rfl (fun W hW => ?_) hS ?_
          rotate_left
          · try dsimp only at hW
            go_simp
            try with_reducible rfl
          simp only [Act.put, List.setIfInBounds_toArray, List.set_cons_zero, List.set_cons_succ]
          refine ord_still 8 rfl (v := ?_) (by kernel_rfl) (fun _ _ _ h => h) rfl (fun W hW => ?_) hS ?_
          rotate_left
          · try dsimp only at hW
            go_simp
            try with_reducible rfl
          simp only [Act.put, List.setIfInBounds_toArray, List.set_cons_zero, List.set_cons_succ]
          refine ord_still 9 rfl (v := ?_) (by kernel_rfl) (fun _ _ _ h => h) rfl (fun W hW => ?_) hS ?_
          rotate_left
          · try dsimp only at hW
            go_simp
            try with_reducible rfl
          simp only [Act.put, List.setIfInBounds_toArray, List.set_cons_zero, List.set_cons_succ]
          refine ord_done (by kernel_rfl) ?_
          clear hS HY HX HST e1 e2 e4 p0 p1
          go_wp2_with fail
          go_roundw
          case rel => exact ⟨k + 1, _, _, _, by go_num, HF6.out⟩
          case measure => have := HKN.out; simp [intOf]; omega

theorem pf_compact_nil (w : World) : Calls Try.prog 49 #[.slice none 0 0] w fun e w' => e = .returned (.slice none 0 0) ∧ w = w' := by
  go_enter Try.func49, Try.ntmps49
  go_wp2_with fail
  go_ret
  exact ⟨rfl, rfl⟩

end Go.Proofs.Ytcchjljdhjkmeaa
