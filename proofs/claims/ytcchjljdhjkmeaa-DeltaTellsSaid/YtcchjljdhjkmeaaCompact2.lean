/-
  Of routes in a block that stand in order, alike neighbours left out but the first: the walk of slices.CompactFunc. No condition but that there are no more than a thousand million routes.
-/
import Derived.Test.YtcchjljdhjkmeaaCompact
namespace Go.Proofs.Ytcchjljdhjkmeaa
open Go.RowKit
set_option linter.unusedVariables false
set_option linter.unusedSimpArgs false
set_option maxRecDepth 100000

set_option maxHeartbeats 2000000 in
theorem st_compact {w : World} {g cap n : Nat} {U : List Tg} {Z : List Value} (H : RowT w g U Z) (hn : U.length = n) (hc : n ≤ cap) (hcm : n ≤ 4000000000000000000 ∧ cap ≤ 9223372036854775807) (hnm : n ≤ 1000000000) :
    Calls Try.prog 42 #[.slice (some ⟨g, 0, none⟩) n cap, .func (.func 43) #[] #[]] w (CoPost g cap U Z w) := by
  have HN := hid hn
  have hnI : (n : Int) ≤ 1000000000 := by omega
  have hcI : (cap : Int) ≤ 9223372036854775807 := by omega
  by_cases h2 : n < 2
  · have hU : compT U = U := by
      rcases U with _ | ⟨x, _ | ⟨y, U⟩⟩
      · rfl
      · rfl
      · simp at hn; omega
    have HF := hid (show CoPost g cap U Z w (.returned (.slice (some ⟨g, 0, none⟩) n cap)) w from ⟨by rw [hU, hn], Z, by rw [hU]; exact H, by rw [hU], Chg.refl _ _⟩)
    have c1 : (n : Int) < 2 := by omega
    clear H hn hU h2
    go_enter Try.func42, Try.ntmps42
    go_wp2_with fail
    go_ret
    exact HF.out
  · obtain ⟨x0, R0, hU⟩ : ∃ x R, U = x :: R := by
      rcases U with _ | ⟨x, U⟩
      · simp at hn; omega
      · exact ⟨x, U, rfl⟩
    have H0 := hid (show CoSt g U Z 1 w w [] x0 R0 from ⟨hU, rfl, by rw [hU]; rfl, H, Chg.refl _ _⟩)
    have c1 : ¬ (n : Int) < 2 := by omega
    clear H hn hU h2
    go_enter Try.func42, Try.ntmps42
    go_wp2_with fail
    go_loopw [5] (fun iv wr => CoRel g U Z w iv wr) (fun iv _ => n - (intOf iv).toNat)
    case atStart => exact ⟨1, [], x0, R0, by go_num, H0.out⟩
    case round =>
      obtain ⟨k, D, x, R, rfl, hS⟩ := hrel
      clear H0
      have hk := hS.k
      have hN := HN.out
      have hu := hS.u
      cases R with
      | nil =>
        have hkn : k = n := by rw [hu] at hN; simp at hN; omega
        have HF := hid (show CoPost g cap U Z w (.returned (.slice (some ⟨g, 0, none⟩) n cap)) wr from ⟨by rw [hS.done, hN], Z, by rw [hS.done]; exact hS.r, by rw [hS.done], hS.h⟩)
        subst hkn
        clear hS hk hN hu
        go_wp2_with fail
        go_ret
        exact HF.out
      | cons y R =>
        obtain ⟨p, hp⟩ : ∃ p, D.length = p := ⟨_, rfl⟩
        have hkn : k < n := by rw [hu] at hN; simp at hN; omega
        have hx1 : U[p]? = some x := by rw [hu]; exact at_pre hp.symm
        have hy1 : U[k]? = some y := by
          have e : D ++ x :: y :: R = (D ++ [x]) ++ y :: R := by simp
          rw [hu, e]; exact at_pre (by simp; omega)
        obtain ⟨d0, d1, d2, d3⟩ := hS.r.cells hx1
        obtain ⟨c0, c1, c2, c3⟩ := hS.r.cells hy1
        have HY := hid (And.intro c0 (And.intro c1 (And.intro c2 (And.intro c3 (And.intro d0 (And.intro d1 (And.intro d2 d3)))))))
        obtain ⟨b, hb⟩ : ∃ b, b = decide (y.1.1 = x.1.1) := ⟨_, rfl⟩
        have cb := hid (fun w => srt_eq y.1 x.1 b hb w)
        have HBB := hid hb
        have HST := hid hS
        have e1 : (k : Int) - 1 = (p : Int) := by omega
        have e2 : IntKind.i64.wrap ((k : Int) - 1) = (p : Int) := by rw [IntKind.wrap_i64]; omega
        have j0 : (0 : Int) ≤ (k : Int) := by omega
        have j1 : (k : Int) < (n : Int) := by omega
        have p0 : (0 : Int) ≤ (p : Int) := by omega
        have p1 : (p : Int) < (n : Int) := by omega
        have HKP := hid hp
        have HKN := hid hkn
        obtain ⟨⟨⟨⟨x1, x2⟩, x3⟩, x4⟩, x5⟩ := x
        obtain ⟨⟨⟨⟨y1, y2⟩, y3⟩, y4⟩, y5⟩ := y
        simp only at c0 c1 c2 c3 d0 d1 d2 d3 cb HY HBB HST
        clear hS hk hN hu hx1 hy1 hp hb hkn
        cases b with
        | false =>
          go_wp2_with fail
          refine wp_region_later (fun w' => w'.cell? ⟨g, k * 4, none⟩ = some (.int .u64 (y1 : Int)) ∧ w'.cell? ⟨g, k * 4 + 1, none⟩ = some (.int .u64 (y2 : Int)) ∧ w'.cell? ⟨g, k * 4 + 2, none⟩ = some (.int .i64 y3) ∧ w'.cell? ⟨g, k * 4 + 3, none⟩ = some (.int .i64 y4) ∧ w'.cell? ⟨g, p * 4, none⟩ = some (.int .u64 (x1 : Int)) ∧ w'.cell? ⟨g, p * 4 + 1, none⟩ = some (.int .u64 (x2 : Int)) ∧ w'.cell? ⟨g, p * 4 + 2, none⟩ = some (.int .i64 x3) ∧ w'.cell? ⟨g, p * 4 + 3, none⟩ = some (.int .i64 x4))
            (fun z => ⟨z.cell HY.out.1, z.cell HY.out.2.1, z.cell HY.out.2.2.1, z.cell HY.out.2.2.2.1, z.cell HY.out.2.2.2.2.1, z.cell HY.out.2.2.2.2.2.1, z.cell HY.out.2.2.2.2.2.2.1, z.cell HY.out.2.2.2.2.2.2.2⟩) (by kernel_rfl) (by kernel_rfl) (fun HS => ?_)
          repeat (go_big_quiet_step (with_reducible exact Later.calls _ (cb.out _)))
          refine wpQuiet_nil ?_
          rintro w6 ⟨⟨_, hb6⟩, rfl⟩
          have HF6 := hid (HST.out.next hb6 (by have := HBB.out; exact of_decide_eq_false this.symm))
          clear HS HST cb hb6 HY c0 c1 c2 c3 d0 d1 d2 d3 e1 e2 p0 p1
          go_wp2_with fail
          go_roundw
          case rel => exact ⟨k + 1, _, _, _, by go_num, HF6.out⟩
          case measure => have := HKN.out; simp [intOf]; omega
        | true =>
          go_wp2_with fail
          refine wp_region_later (fun w' => w'.cell? ⟨g, k * 4, none⟩ = some (.int .u64 (y1 : Int)) ∧ w'.cell? ⟨g, k * 4 + 1, none⟩ = some (.int .u64 (y2 : Int)) ∧ w'.cell? ⟨g, k * 4 + 2, none⟩ = some (.int .i64 y3) ∧ w'.cell? ⟨g, k * 4 + 3, none⟩ = some (.int .i64 y4) ∧ w'.cell? ⟨g, p * 4, none⟩ = some (.int .u64 (x1 : Int)) ∧ w'.cell? ⟨g, p * 4 + 1, none⟩ = some (.int .u64 (x2 : Int)) ∧ w'.cell? ⟨g, p * 4 + 2, none⟩ = some (.int .i64 x3) ∧ w'.cell? ⟨g, p * 4 + 3, none⟩ = some (.int .i64 x4))
            (fun z => ⟨z.cell HY.out.1, z.cell HY.out.2.1, z.cell HY.out.2.2.1, z.cell HY.out.2.2.2.1, z.cell HY.out.2.2.2.2.1, z.cell HY.out.2.2.2.2.2.1, z.cell HY.out.2.2.2.2.2.2.1, z.cell HY.out.2.2.2.2.2.2.2⟩) (by kernel_rfl) (by kernel_rfl) (fun HS => ?_)
          repeat (go_big_quiet_step (with_reducible exact Later.calls _ (cb.out _)))
          refine wpQuiet_nil ?_
          rintro w6 ⟨⟨_, hb6⟩, rfl⟩
          have HI := hid (HST.out.inner hb6 (by have := HBB.out; exact of_decide_eq_true this.symm))
          clear HS HST cb hb6 HY c0 c1 c2 c3 d0 d1 d2 d3 e1 e2 p0 p1
          have k1 : (k : Int) ≤ (n : Int) := by omega
          have k2 : (n : Int) ≤ (cap : Int) := by omega
          have k3 : ¬ cap = k := by have := HKN.out; omega
          obtain ⟨m, hm⟩ : ∃ m, n - k = m := ⟨_, rfl⟩
          obtain ⟨c', hc'⟩ : ∃ c', cap - k = c' := ⟨_, rfl⟩
          have m1 : (m : Int) ≤ 1000000000 := by omega
          have HM := hid hm
          go_wp2_with fail
          first | rw [hm, hc'] | skip
          clear hm hc'
          go_loopw [5, 7] (fun kv jv wr => CiRel g U Z k w kv jv wr) (fun _ jv _ => n - (intOf jv).toNat)
          case atStart => exact ⟨k, 1, _, _, _, _, by go_num, by go_num, HI.out⟩
          case round =>
            obtain ⟨kk, j, K, J, y, R, rfl, rfl, hS⟩ := hrel
            clear HI
            have hN := HN.out
            have hK := HKN.out
            have hj := hS.jj
            have hkk := hS.kk
            have hnn := hS.n
            have hM := HM.out
            cases R with
            | nil =>
              have hjm : j = m := by simp at hnn; omega
              have hzl := zeros_len (#[.int .u64 0, .int .u64 0, .int .i64 0, .int .i64 0] : Array Value) (n - kk)
              obtain ⟨zs, hzs⟩ : ∃ zs, (Builtin.zeroCells (Value.agg #[.int .u64 0, .int .u64 0, .int .i64 0, .int .i64 0]).cells (n - kk)).toList = zs := ⟨_, rfl⟩
              have hz1 : ∀ v ∈ zs, v.oneCell' = true := by
                rw [← hzs]; exact zeros_one (by intro u hu; simp [Value.cells] at hu; rcases hu with rfl | rfl <;> rfl) (by decide) _
              have HZL := hid (show zs.length = (n - kk) * 4 by rw [← hzs]; exact hzl)
              have HFIN := hid (fun (w' : World) hB hC => hS.fin (zs := zs) (by rw [HZL.out, hN]) (w' := w') hB hC)
              have HR := hid (show Blk wr g 39 (rtsV ((K ++ J ++ [y]).map (·.1)) ++ Z) from hS.r)
              have HL := hid (show kk * 4 + zs.length ≤ (rtsV ((K ++ J ++ [y]).map (·.1)) ++ Z).length by rw [HZL.out, List.length_append, rtsV_len, List.length_map]; simp at hnn ⊢; omega)
              have HKK := hid (show K.length = kk ∧ kk < n from ⟨hkk, by simp at hnn; omega⟩)
              have HN0 := hid (show 0 < n - kk by simp at hnn; omega)
              have s0 : (0 : Int) ≤ (kk : Int) := by omega
              have s1 : (kk : Int) ≤ (n : Int) := by have := HKK.out.2; omega
              have s2 : ¬ cap = kk := by have := HKK.out.2; omega
              have s3 : (kk : Int) ≤ (cap : Int) := by omega
              have HZS := hid hzs
              subst hjm
              clear hS hj hkk hnn hzl hzs hK hM
              go_wp2_with (refine wpList_clear_m rfl _ 22 rfl 39 Try.underlying22 (.agg #[.int .u64 0, .int .u64 0, .int .i64 0, .int .i64 0]) (fun _ => by kernel_rfl) g (kk * 4) (n - kk) _ rfl HN0.out _ 39 HR.out zs HZS.out HL.out hz1 ?_)
              intro w7 hB7 hC7
              have hf := HFIN.out w7 (by simpa using hB7) hC7
              have HF := hid (show CoPost g cap U Z w (.returned (.slice (some ⟨g, 0, none⟩) kk cap)) w7 from ⟨by rw [hf.1, HKK.out.1], zs ++ Z, by rw [hf.1]; exact hf.2.1, by rw [hf.1, HKK.out.1]; exact hf.2.2.1, hf.2.2.2⟩)
              clear hf hB7 hC7 HFIN HR HL
              go_wp2_with fail
              go_ret
              exact HF.out
            | cons z R =>
              obtain ⟨q, hq⟩ : ∃ q, K.length + J.length = q := ⟨_, rfl⟩
              obtain ⟨p, hp⟩ : ∃ p, j = p + 1 := ⟨j - 1, by have := hS.j1; omega⟩
              have qe : q * 4 = k * 4 + p * 4 := by omega
              have je : (q + 1) * 4 = k * 4 + j * 4 := by omega
              have hy1 : (K ++ J ++ y :: z :: R)[q]? = some y := at_pre (by simp; omega)
              have hz1 : (K ++ J ++ y :: z :: R)[q + 1]? = some z := by
                have e : K ++ J ++ y :: z :: R = (K ++ J ++ [y]) ++ z :: R := by simp
                rw [e]; exact at_pre (by simp; omega)
              obtain ⟨d0, d1, d2, d3⟩ := hS.r.cells hy1
              obtain ⟨c0, c1, c2, c3⟩ := hS.r.cells hz1
              rw [qe] at d0 d1 d2 d3
              rw [je] at c0 c1 c2 c3
              have HY := hid (And.intro c0 (And.intro c1 (And.intro c2 (And.intro c3 (And.intro d0 (And.intro d1 (And.intro d2 d3)))))))
              obtain ⟨b, hb⟩ : ∃ b, b = decide (z.1.1 = y.1.1) := ⟨_, rfl⟩
              have cb := hid (fun w => srt_eq z.1 y.1 b hb w)
              have HBB := hid hb
              have HST := hid hS
              have e1 : (j : Int) - 1 = (p : Int) := by omega
              have e2 : IntKind.i64.wrap ((j : Int) - 1) = (p : Int) := by rw [IntKind.wrap_i64]; omega
              have hjm : j < m := by simp at hnn; omega
              have i0 : (0 : Int) ≤ (j : Int) := by omega
              have i1 : (j : Int) < (m : Int) := by omega
              have p0 : (0 : Int) ≤ (p : Int) := by omega
              have p1 : (p : Int) < (m : Int) := by omega
              have hkn2 : kk < n := by simp at hnn; omega
              have k0 : (0 : Int) ≤ (kk : Int) := by omega
              have k9 : (kk : Int) < (n : Int) := by omega
              have HJM := hid hjm
              have HZ1 := hid hz1
              have HQ := hid (And.intro je hq)
              obtain ⟨⟨⟨⟨x1, x2⟩, x3⟩, x4⟩, x5⟩ := y
              obtain ⟨⟨⟨⟨y1, y2⟩, y3⟩, y4⟩, y5⟩ := z
              simp only at c0 c1 c2 c3 d0 d1 d2 d3 cb HY HBB HST HZ1
              clear hS hN hK hM hkk hnn hj hy1 hz1 hp hb hjm qe je hq hkn2
              cases b with
              | true =>
                go_wp2_with fail
                refine wp_region_later (fun w' => w'.cell? ⟨g, k * 4 + j * 4, none⟩ = some (.int .u64 (y1 : Int)) ∧ w'.cell? ⟨g, k * 4 + j * 4 + 1, none⟩ = some (.int .u64 (y2 : Int)) ∧ w'.cell? ⟨g, k * 4 + j * 4 + 2, none⟩ = some (.int .i64 y3) ∧ w'.cell? ⟨g, k * 4 + j * 4 + 3, none⟩ = some (.int .i64 y4) ∧ w'.cell? ⟨g, k * 4 + p * 4, none⟩ = some (.int .u64 (x1 : Int)) ∧ w'.cell? ⟨g, k * 4 + p * 4 + 1, none⟩ = some (.int .u64 (x2 : Int)) ∧ w'.cell? ⟨g, k * 4 + p * 4 + 2, none⟩ = some (.int .i64 x3) ∧ w'.cell? ⟨g, k * 4 + p * 4 + 3, none⟩ = some (.int .i64 x4))
                  (fun z => ⟨z.cell HY.out.1, z.cell HY.out.2.1, z.cell HY.out.2.2.1, z.cell HY.out.2.2.2.1, z.cell HY.out.2.2.2.2.1, z.cell HY.out.2.2.2.2.2.1, z.cell HY.out.2.2.2.2.2.2.1, z.cell HY.out.2.2.2.2.2.2.2⟩) (by kernel_rfl) (by kernel_rfl) (fun HS => ?_)
                repeat (go_big_quiet_step (with_reducible exact Later.calls _ (cb.out _)))
                refine wpQuiet_nil ?_
                rintro w6 ⟨⟨_, hb6⟩, rfl⟩
                have HF6 := hid (HST.out.same hb6 (by have := HBB.out; exact of_decide_eq_true this.symm))
                clear HS HST cb hb6 HY c0 c1 c2 c3 d0 d1 d2 d3 e1 e2 p0 p1
                go_wp2_with fail
                go_roundw
                case rel => exact ⟨kk, j + 1, _, _, _, _, rfl, by go_num, HF6.out⟩
                case measure => have := HJM.out; have := HM.out; simp [intOf]; omega
              | false =>
                go_wp2_with fail
                refine wp_region_later (fun w' => w'.cell? ⟨g, k * 4 + j * 4, none⟩ = some (.int .u64 (y1 : Int)) ∧ w'.cell? ⟨g, k * 4 + j * 4 + 1, none⟩ = some (.int .u64 (y2 : Int)) ∧ w'.cell? ⟨g, k * 4 + j * 4 + 2, none⟩ = some (.int .i64 y3) ∧ w'.cell? ⟨g, k * 4 + j * 4 + 3, none⟩ = some (.int .i64 y4) ∧ w'.cell? ⟨g, k * 4 + p * 4, none⟩ = some (.int .u64 (x1 : Int)) ∧ w'.cell? ⟨g, k * 4 + p * 4 + 1, none⟩ = some (.int .u64 (x2 : Int)) ∧ w'.cell? ⟨g, k * 4 + p * 4 + 2, none⟩ = some (.int .i64 x3) ∧ w'.cell? ⟨g, k * 4 + p * 4 + 3, none⟩ = some (.int .i64 x4))
                  (fun z => ⟨z.cell HY.out.1, z.cell HY.out.2.1, z.cell HY.out.2.2.1, z.cell HY.out.2.2.2.1, z.cell HY.out.2.2.2.2.1, z.cell HY.out.2.2.2.2.2.1, z.cell HY.out.2.2.2.2.2.2.1, z.cell HY.out.2.2.2.2.2.2.2⟩) (by kernel_rfl) (by kernel_rfl) (fun HS => ?_)
                repeat (go_big_quiet_step (with_reducible exact Later.calls _ (cb.out _)))
                refine wpQuiet_nil ?_
                rintro w6 ⟨⟨_, hb6⟩, rfl⟩
                obtain ⟨J', hJ'⟩ := HST.out.new hb6 (by have := HBB.out; exact of_decide_eq_false this.symm)
                have HF6 := hid hJ'
                have hr6 := HST.out.r.below hb6
                obtain ⟨c0, c1, c2, c3⟩ := hr6.cells HZ1.out
                rw [HQ.out.1] at c0 c1 c2 c3
                simp only at c0 c1 c2 c3
                have f0 := hr6.frozen (kk * 4)
                have f1 := hr6.frozen (kk * 4 + 1)
                have f2 := hr6.frozen (kk * 4 + 2)
                have f3 := hr6.frozen (kk * 4 + 3)
                obtain ⟨t0, t1, t2, t3⟩ : (∃ u, w6.cell? ⟨g, kk * 4, none⟩ = some u) ∧ (∃ u, w6.cell? ⟨g, kk * 4 + 1, none⟩ = some u) ∧ (∃ u, w6.cell? ⟨g, kk * 4 + 2, none⟩ = some u) ∧ (∃ u, w6.cell? ⟨g, kk * 4 + 3, none⟩ = some u) := by
                  have hlt : kk < (K ++ J ++ (((((x1, x2), x3), x4), x5) : Tg) :: (((((y1, y2), y3), y4), y5) : Tg) :: R).length := by
                    have := HST.out.kk; simp; omega
                  obtain ⟨a0, a1, a2, a3⟩ := hr6.cells (List.getElem?_eq_getElem hlt)
                  exact ⟨⟨_, a0⟩, ⟨_, a1⟩, ⟨_, a2⟩, ⟨_, a3⟩⟩
                obtain ⟨u0, t0⟩ := t0
                obtain ⟨u1, t1⟩ := t1
                obtain ⟨u2, t2⟩ := t2
                obtain ⟨u3, t3⟩ := t3
                clear HS HST cb hb6 HY d0 d1 d2 d3 e1 e2 p0 p1 hr6 hJ'
                go_wp2_with fail
                go_roundw
                case rel => exact ⟨kk + 1, j + 1, _, _, _, _, by go_num, by go_num, HF6.out⟩
                case measure => have := HJM.out; have := HM.out; simp [intOf]; omega

end Go.Proofs.Ytcchjljdhjkmeaa
