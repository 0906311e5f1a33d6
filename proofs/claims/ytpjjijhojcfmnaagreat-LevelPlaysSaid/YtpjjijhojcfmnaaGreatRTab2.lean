/-
  The document's table: what a key has, its size, making one. No condition but that words are words.
-/
import Derived.Test.YtpjjijhojcfmnaaGreatRTab1
import Derived.Test.YtpjjijhojcfmnaaGreatGTab2
namespace Go.Proofs.YtpjjijhojcfmnaaGreat
open Go.RowKit
set_option linter.unusedVariables false
set_option linter.unusedSimpArgs false
set_option maxRecDepth 100000

/-- The document's table, somewhere in F. -/
def RwF (w : World) (g : Nat) (F : Nat → Prop) (t : Tb) : Prop := ∃ q v, RwQ w g q v t ∧ F g ∧ F q ∧ OwnIn F v
theorem RwF.mono {w : World} {g : Nat} {F G : Nat → Prop} {t : Tb} (h : RwF w g F t) (hs : ∀ z, z < w.heap.size → F z → G z) : RwF w g G t := by
  obtain ⟨q, v, h, h1, h2, h3⟩ := h
  exact ⟨q, v, h, hs _ h.top.lt h1, hs _ h.bk.lt h2, fun z hz => hs z (Owns.base_le h.st z hz).2 (h3 z hz)⟩
theorem RwF.chg {w w' : World} {g : Nat} {F S : Nat → Prop} {t : Tb} (h : RwF w g F t) (hc : Chg S w w') (hs : ∀ z, z < w.heap.size → F z → ¬ S z) : RwF w' g F t := by
  obtain ⟨q, v, h, h1, h2, h3⟩ := h
  exact ⟨q, v, h.chg hc (hs _ h.top.lt h1) (hs _ h.bk.lt h2) (fun b hb => hs b (Owns.base_le h.st b hb).2 (h3 b hb)), h1, h2, h3⟩
theorem RwF.below {w w' : World} {g : Nat} {F : Nat → Prop} {t : Tb} (h : RwF w g F t) (hc : Below w.heap.size w w') : RwF w' g F t := by
  obtain ⟨q, v, h, h1, h2, h3⟩ := h
  exact ⟨q, v, h.below hc, h1, h2, h3⟩
theorem find_srch {l : List Rt} (hs : l.Pairwise (fun x y => x.1.lt y.1)) (p : Pf) : (srchB l p = true → findI l p = (srchI l p : Int)) ∧ (srchB l p = false → findI l p = -1) := by
  constructor
  · intro h
    obtain ⟨u, hu, _⟩ := srch_is hs h
    exact findI_some hu rfl fun j r hj hr e => by have := srchI_lo l p j r hj hr; rw [e] at this; exact pf_lt_irrefl _ this
  · intro h
    exact findI_none fun j r hr e => of_decide_eq_false h ⟨r, List.mem_of_getElem? hr, e⟩

set_option maxHeartbeats 4000000 in
theorem rk_get {w : World} {g : Nat} {F : Nat → Prop} {t : Tb} (H0 : RwF w g F t) (hok : t.Ok) (p : Pf) (hp : p.1.ok) :
    Calls Tryz.prog 23 #[.pointer (some ⟨g, 0, none⟩), .agg #[.int .u64 (p.1.1 : Int), .int .u64 (p.1.2 : Int), .int .i64 p.2]] w (CkGet w t p) := by
  obtain ⟨q, v, H, _, _, _⟩ := H0
  have hb := (Below.refl w.heap.size w).alloc (Nat.le_refl _) (.cells #[.int .u64 (p.1.1 : Int), .int .u64 (p.1.2 : Int), .int .i64 p.2] 38)
  have H1 := H.below hb
  have hpb := Blk.new_at w #[.int .u64 (p.1.1 : Int), .int .u64 (p.1.2 : Int), .int .i64 p.2] 38 w.heap.size rfl
  have c1 := hid (fun w => rk_two hok.s64 hok.n2 p hp w)
  have l1 := b1_lt hok.n1 p
  have l2 := b2_lt hok.n1 p
  have hn2 := hok.n2
  have HLEN := hid hok.len
  have HH := hid H1
  have HB := hid hb
  have HPB := hid hpb
  have HV1 := hid (get_b hok l1 (p := p))
  have HV2 := hid (get_b hok l2 (p := p))
  have HV3 := hid (get_st hok (p := p))
  have HV4 := hid (get_none hok (p := p))
  have HAT := hid (atT_cases t p)
  have HFS := hid (find_srch hok.srt p)
  have HVN := hid (show ∀ i, hasB (t.at i) p = false → valP (t.at i) p = 0 from fun i h => by
    rcases takeB_cases (t.at i) p with ⟨h1, _⟩ | ⟨_, _, h2, _⟩
    · rw [h] at h1; cases h1
    · exact h2)
  obtain ⟨A, cap, rfl, hmc, hcm, hA⟩ := Owns.form H.st
  unfold maxLen at hcm
  have HA := hid hA
  unfold CkGet
  generalize valT t p = vv at *
  generalize hasT t p = hh at *
  generalize atT t p = aa at *
  generalize t.b1 p = x1 at *
  generalize t.b2 p = x2 at *
  have hrd := hid (fun (w' : World) (h : RwQ w' g q (.slice A t.st.length cap) t) => Rd.of_owns (en := rtEn) h.st rtEn_length)
  clear hok hb hpb H1 H hA
  obtain ⟨n, hn⟩ : ∃ n, t.n = n := ⟨_, rfl⟩
  have HN := hid hn
  rw [hn] at l1 l2 hn2 c1
  obtain ⟨s, hs⟩ : ∃ s, t.s = s := ⟨_, rfl⟩
  have HSS := hid hs
  rw [hs] at c1
  obtain ⟨m, hm⟩ : ∃ m, t.st.length = m := ⟨_, rfl⟩
  have HM := hid hm
  rw [hm] at hmc HH hrd
  clear hn hm hs
  have hi0 : (0 : Int) ≤ (x1 : Int) := by omega
  have hi1 : (x1 : Int) < (n : Int) := by omega
  have hi2 : (0 : Int) ≤ (x2 : Int) := by omega
  have hi3 : (x2 : Int) < (n : Int) := by omega
  have r0 := HH.out.top.cellv (i := 0) rfl
  have r1 := HH.out.top.cellv (i := 1) rfl
  rw [HSS.out] at r0
  rw [HN.out] at r1
  have HR0 := hid r0
  have HR1 := hid r1
  clear r0 r1
  generalize hw0 : w.alloc (.cells #[.int .u64 (p.1.1 : Int), .int .u64 (p.1.2 : Int), .int .i64 p.2] 38) = w0 at *
  obtain ⟨⟨a, b⟩, i⟩ := p
  simp only at HPB c1
  subst hw0
  go_enter Tryz.func23, Tryz.ntmps23
  go_wp2_with fail
  generalize w.alloc (.cells #[.int .u64 (a : Int), .int .u64 (b : Int), .int .i64 i] 38) = w0 at *
  refine wp_region_later (fun w' => w'.cell? ⟨g, 0, none⟩ = some (.int .u64 (s : Int)) ∧ w'.cell? ⟨g, 1, none⟩ = some (.slice (some ⟨q, 0, none⟩) n n) ∧ w'.cell? ⟨w.heap.size, 0, none⟩ = some (.int .u64 (a : Int)) ∧ w'.cell? ⟨w.heap.size, 1, none⟩ = some (.int .u64 (b : Int)) ∧ w'.cell? ⟨w.heap.size, 2, none⟩ = some (.int .i64 i))
    (fun z => ⟨z.cell HR0.out, z.cell HR1.out, z.cell (HPB.out.cellv rfl), z.cell (HPB.out.cellv rfl), z.cell (HPB.out.cellv rfl)⟩) (by kernel_rfl) (by kernel_rfl) (fun HS => ?_)
  repeat (go_big_quiet_step (with_reducible exact Later.calls _ (c1.out _)))
  refine wpQuiet_nil ?_
  rintro w1 ⟨⟨_, hb1⟩, rfl⟩
  have HB1 := hid (held_next HB.out hb1)
  have HH1 := hid (HH.out.below hb1)
  have HP1 := hid (HPB.out.below' hb1)
  have HR1 := hid (show w1.cell? ⟨g, 1, none⟩ = some (.slice (some ⟨q, 0, none⟩) n n) by rw [← HN.out]; exact HH1.out.top.cellv rfl)
  clear hb1 HS HB HPB c1 HH HR0
  have cG := hid fun (w' : World) (h : Below w1.heap.size w1 w') => rk_bget (HH1.out.below h) (i := x1) (by rw [HN.out]; exact l1) HLEN.out ((a, b), i)
  obtain ⟨hv, hhv⟩ : ∃ z, hasB (t.at x1) ((a, b), i) = z := ⟨_, rfl⟩
  have E1 := hid hhv
  rw [hhv] at cG
  clear hhv
  cases hv
  · obtain ⟨hv2, hhv2⟩ : ∃ z, hasB (t.at x2) ((a, b), i) = z := ⟨_, rfl⟩
    have E2 := hid hhv2
    clear hhv2
    go_wp2_with fail
    refine wp_region_later (fun w' => w'.cell? ⟨g, 1, none⟩ = some (.slice (some ⟨q, 0, none⟩) n n) ∧ w'.cell? ⟨w.heap.size, 0, none⟩ = some (.int .u64 (a : Int)) ∧ w'.cell? ⟨w.heap.size, 1, none⟩ = some (.int .u64 (b : Int)) ∧ w'.cell? ⟨w.heap.size, 2, none⟩ = some (.int .i64 i))
      (fun z => ⟨z.cell HR1.out, z.cell (HP1.out.cellv rfl), z.cell (HP1.out.cellv rfl), z.cell (HP1.out.cellv rfl)⟩) (by kernel_rfl) (by kernel_rfl) (fun HS => ?_)
    repeat (go_big_quiet_step (with_reducible exact Later.calls _ (cG.out _ (Later.below _))))
    refine wpQuiet_nil ?_
    rintro w3 ⟨⟨_, hb3⟩, rfl⟩
    have HB3 := hid (held_next HB1.out hb3)
    have HH3 := hid (HH1.out.below hb3)
    have HP3 := hid (HP1.out.below' hb3)
    have HR3 := hid (show w3.cell? ⟨g, 1, none⟩ = some (.slice (some ⟨q, 0, none⟩) n n) by rw [← HN.out]; exact HH3.out.top.cellv rfl)
    clear hb3 HS cG HB1 HH1 HP1 HR1
    have HAA := hid (HAT.out.2 E1.out)
    have cG := hid fun (w' : World) (h : Below w3.heap.size w3 w') => rk_bget (HH3.out.below h) (i := x2) (by rw [HN.out]; exact l2) HLEN.out ((a, b), i)
    rw [E2.out] at cG
    cases hv2
    · have cF := hid fun (w' : World) (h : Below w3.heap.size w3 w') => ref_find w' _ t.st (hrd.out w' (HH3.out.below h)) ((a, b), i)
      have HV0 := hid (HVN.out x2 E2.out)
      rw [HV0.out] at cG
      go_wp2_with fail
      refine wp_region_later (fun w' => w'.cell? ⟨g, 1, none⟩ = some (.slice (some ⟨q, 0, none⟩) n n) ∧ w'.cell? ⟨w.heap.size, 0, none⟩ = some (.int .u64 (a : Int)) ∧ w'.cell? ⟨w.heap.size, 1, none⟩ = some (.int .u64 (b : Int)) ∧ w'.cell? ⟨w.heap.size, 2, none⟩ = some (.int .i64 i))
        (fun z => ⟨z.cell HR3.out, z.cell (HP3.out.cellv rfl), z.cell (HP3.out.cellv rfl), z.cell (HP3.out.cellv rfl)⟩) (by kernel_rfl) (by kernel_rfl) (fun HS => ?_)
      repeat (go_big_quiet_step (with_reducible exact Later.calls _ (cG.out _ (Later.below _))))
      refine wpQuiet_nil ?_
      rintro w5 ⟨⟨_, hb5⟩, rfl⟩
      have HB5 := hid hb5
      have HBW5 := hid (held_next HB3.out hb5)
      have HP5 := hid (HP3.out.below' hb5)
      have HR5 := hid (show w5.cell? ⟨g, 2, none⟩ = some (.slice A m cap) from (HH3.out.below hb5).top.cellv rfl)
      have HH5 := hid (HH3.out.below hb5)
      clear hb5 HS cG
      obtain ⟨sv, hsv⟩ : ∃ z, srchB t.st ((a, b), i) = z := ⟨_, rfl⟩
      have E3 := hid hsv
      obtain ⟨si, hsi⟩ : ∃ z, srchI t.st ((a, b), i) = z := ⟨_, rfl⟩
      have HSI := hid hsi
      clear hsv hsi
      cases sv
      · have hf1 := HFS.out.2 E3.out
        rw [hf1] at cF
        have HVE := hid (HV4.out E1.out E2.out E3.out)
        clear hf1
        go_wp2_with fail
        refine wp_region_later (fun w' => w'.cell? ⟨g, 2, none⟩ = some (.slice A m cap) ∧ w'.cell? ⟨w.heap.size, 0, none⟩ = some (.int .u64 (a : Int)) ∧ w'.cell? ⟨w.heap.size, 1, none⟩ = some (.int .u64 (b : Int)) ∧ w'.cell? ⟨w.heap.size, 2, none⟩ = some (.int .i64 i))
          (fun z => ⟨z.cell HR5.out, z.cell (HP5.out.cellv rfl), z.cell (HP5.out.cellv rfl), z.cell (HP5.out.cellv rfl)⟩) (by kernel_rfl) (by kernel_rfl) (fun HS => ?_)
        repeat (go_big_quiet_step (with_reducible exact Later.calls _ (cF.out _ (HB5.out.trans ((Later.below _).mono HB5.out.size)))))
        refine wpQuiet_nil ?_
        rintro w6 ⟨⟨_, hb6⟩, rfl⟩
        have HB6 := hid (held_next HBW5.out hb6)
        clear hb6 HS cF
        go_wp2_with fail
        have hb7 := (Below.refl w6.heap.size w6).alloc (Nat.le_refl _) (.cells #[.int .i64 (x1 : Int), .int .i64 (x2 : Int)] 3)
        have HI := hid (Blk.new_at w6 #[.int .i64 (x1 : Int), .int .i64 (x2 : Int)] 3 w6.heap.size rfl)
        go_returns
        refine ⟨_, by rw [HVE.out.1, HVE.out.2] <;> rfl, ?_, held_next HB6.out hb7⟩
        rw [HAA.out]
        exact owns_ints _ [x1, x2] HB6.out.size HI.out (by unfold maxLen; simp)
      · obtain ⟨u, hu, hvt, hve⟩ := HV3.out E3.out
        have hf1 := HFS.out.1 E3.out
        rw [hf1, HSI.out] at cF
        have HVE := hid (And.intro hvt hve)
        rw [HSI.out] at hu
        have him : si < m := by rw [← HM.out]; exact (List.getElem?_eq_some_iff.1 hu).1
        obtain ⟨ga, rfl, _⟩ := HA.out (by rw [HM.out]; omega)
        have hi4 : (0 : Int) ≤ (si : Int) := by omega
        have hi5 : (si : Int) < (m : Int) := by omega
        have HU := hid hu
        clear hvt hve hu hf1
        go_wp2_with fail
        refine wp_region_later (fun w' => w'.cell? ⟨g, 2, none⟩ = some (.slice (some ⟨ga, 0, none⟩) m cap) ∧ w'.cell? ⟨w.heap.size, 0, none⟩ = some (.int .u64 (a : Int)) ∧ w'.cell? ⟨w.heap.size, 1, none⟩ = some (.int .u64 (b : Int)) ∧ w'.cell? ⟨w.heap.size, 2, none⟩ = some (.int .i64 i))
          (fun z => ⟨z.cell HR5.out, z.cell (HP5.out.cellv rfl), z.cell (HP5.out.cellv rfl), z.cell (HP5.out.cellv rfl)⟩) (by kernel_rfl) (by kernel_rfl) (fun HS => ?_)
        repeat (go_big_quiet_step (with_reducible exact Later.calls _ (cF.out _ (HB5.out.trans ((Later.below _).mono HB5.out.size)))))
        refine wpQuiet_nil ?_
        rintro w6 ⟨⟨_, hb6⟩, rfl⟩
        have HB6 := hid (held_next HBW5.out hb6)
        have hH6 := HH5.out.below hb6
        have y2 : w6.cell? ⟨g, 2, none⟩ = some (.slice (some ⟨ga, 0, none⟩) m cap) := hH6.top.cellv rfl
        have hst6 := hH6.st
        rw [HM.out] at hst6
        obtain ⟨_, hcs, hfs⟩ := Owns.cells hst6
        have y3 := (hcs (si * 4 + 3) (by omega)).trans (rtsV_at HU.out)
        clear hb6 HS cF hcs hfs hst6 hH6
        go_wp2_with fail
        have hb7 := (Below.refl w6.heap.size w6).alloc (Nat.le_refl _) (.cells #[.int .i64 (x1 : Int), .int .i64 (x2 : Int)] 3)
        have HI := hid (Blk.new_at w6 #[.int .i64 (x1 : Int), .int .i64 (x2 : Int)] 3 w6.heap.size rfl)
        go_returns
        refine ⟨_, by rw [HVE.out.1, HVE.out.2] <;> rfl, ?_, held_next HB6.out hb7⟩
        rw [HAA.out]
        exact owns_ints _ [x1, x2] HB6.out.size HI.out (by unfold maxLen; simp)
    · have HVE := hid (HV2.out E2.out)
      go_wp2_with fail
      refine wp_region_later (fun w' => w'.cell? ⟨g, 1, none⟩ = some (.slice (some ⟨q, 0, none⟩) n n) ∧ w'.cell? ⟨w.heap.size, 0, none⟩ = some (.int .u64 (a : Int)) ∧ w'.cell? ⟨w.heap.size, 1, none⟩ = some (.int .u64 (b : Int)) ∧ w'.cell? ⟨w.heap.size, 2, none⟩ = some (.int .i64 i))
        (fun z => ⟨z.cell HR3.out, z.cell (HP3.out.cellv rfl), z.cell (HP3.out.cellv rfl), z.cell (HP3.out.cellv rfl)⟩) (by kernel_rfl) (by kernel_rfl) (fun HS => ?_)
      repeat (go_big_quiet_step (with_reducible exact Later.calls _ (cG.out _ (Later.below _))))
      refine wpQuiet_nil ?_
      rintro w5 ⟨⟨_, hb5⟩, rfl⟩
      have HB5 := hid (held_next HB3.out hb5)
      clear hb5 HS cG
      go_wp2_with fail
      have hb7 := (Below.refl w5.heap.size w5).alloc (Nat.le_refl _) (.cells #[.int .i64 (x1 : Int), .int .i64 (x2 : Int)] 3)
      have HI := hid (Blk.new_at w5 #[.int .i64 (x1 : Int), .int .i64 (x2 : Int)] 3 w5.heap.size rfl)
      go_returns
      refine ⟨_, by rw [HVE.out.1, HVE.out.2] <;> rfl, ?_, held_next HB5.out hb7⟩
      rw [HAA.out]
      exact owns_ints _ [x1, x2] HB5.out.size HI.out (by unfold maxLen; simp)
  · have HVE := hid (HV1.out E1.out)
    have HAA := hid (HAT.out.1 E1.out)
    go_wp2_with fail
    refine wp_region_later (fun w' => w'.cell? ⟨g, 1, none⟩ = some (.slice (some ⟨q, 0, none⟩) n n) ∧ w'.cell? ⟨w.heap.size, 0, none⟩ = some (.int .u64 (a : Int)) ∧ w'.cell? ⟨w.heap.size, 1, none⟩ = some (.int .u64 (b : Int)) ∧ w'.cell? ⟨w.heap.size, 2, none⟩ = some (.int .i64 i))
      (fun z => ⟨z.cell HR1.out, z.cell (HP1.out.cellv rfl), z.cell (HP1.out.cellv rfl), z.cell (HP1.out.cellv rfl)⟩) (by kernel_rfl) (by kernel_rfl) (fun HS => ?_)
    repeat (go_big_quiet_step (with_reducible exact Later.calls _ (cG.out _ (Later.below _))))
    refine wpQuiet_nil ?_
    rintro w3 ⟨⟨_, hb3⟩, rfl⟩
    have HB3 := hid (held_next HB1.out hb3)
    clear hb3 HS cG
    go_wp2_with fail
    have hb4 := (Below.refl w3.heap.size w3).alloc (Nat.le_refl _) (.cells #[.int .i64 (x1 : Int)] 3)
    have HI := hid (Blk.new_at w3 #[.int .i64 (x1 : Int)] 3 w3.heap.size rfl)
    go_returns
    refine ⟨_, by rw [HVE.out.1, HVE.out.2] <;> rfl, ?_, held_next HB3.out hb4⟩
    rw [HAA.out]
    exact owns_ints _ [x1] HB3.out.size HI.out (by unfold maxLen; simp)

end Go.Proofs.YtpjjijhojcfmnaaGreat
