/-
  The document's table: deleting a key, making one. No condition but that words are words.
-/
import Derived.Test.YtpjjijhojcfmnaaGreatRTab2
import Derived.Test.YtpjjijhojcfmnaaGreatCkLaw
namespace Go.Proofs.YtpjjijhojcfmnaaGreat
open Go.RowKit
set_option linter.unusedVariables false
set_option linter.unusedSimpArgs false
set_option maxRecDepth 100000

theorem RwF.of {w : World} {g q : Nat} {v : Value} {F : Nat → Prop} {t : Tb} (h : RwQ w g q v t) (h1 : F g ∧ F q ∧ OwnIn F v) : RwF w g F t := ⟨q, v, h, h1.1, h1.2.1, h1.2.2⟩
/-- Another stash. -/
theorem RwQ.stash {w w' : World} {g q : Nat} {v v' : Value} {t : Tb} {l : List Rt} (H : RwQ w g q v t) (hO : OwnRts w l w' v') (hb : Below w.heap.size w w') : RwQ (w'.setCell ⟨g, 2, none⟩ v') g q v' { t with st := l } := by
  have hg := H.top.lt
  have hq := H.bk.lt
  have hn : ∀ z, v'.ownBlock = some z → w.heap.size ≤ z := fun z hz => (Owns.base_le hO z hz).1
  have hs := Chg.store w' g 2 v'
  have h1 := H.below hb
  refine ⟨h1.top.set 2 v', h1.bk.chg hs (fun e => H.gq e.symm), Owns.chg (Owns.lower hO (Nat.zero_le _)) hs (fun z hz e => ?_), H.gq, fun e => ?_, fun e => ?_⟩
  · have := hn z hz; omega
  · have := hn g e; omega
  · have := hn q e; omega

set_option maxHeartbeats 4000000 in
theorem rk_delete {w : World} {g : Nat} {F : Nat → Prop} {t : Tb} (H0 : RwF w g F t) (hok : t.Ok) (hst : t.st.length ≤ 100000) (p : Pf) (hp : p.1.ok) :
    Calls Tryz.prog 26 #[.pointer (some ⟨g, 0, none⟩), .agg #[.int .u64 (p.1.1 : Int), .int .u64 (p.1.2 : Int), .int .i64 p.2]] w fun e w' =>
      e = .returned (.bool (hasT t p)) ∧ RwF w' g (fun z => F z ∨ w.heap.size ≤ z) (delT t p) ∧ Chg F w w' := by
  obtain ⟨q, v, H, hFg, hFq, hFv⟩ := H0
  have HF := hid (show F g ∧ F q ∧ OwnIn F v from ⟨hFg, hFq, hFv⟩)
  have hb := (Below.refl w.heap.size w).alloc (Nat.le_refl _) (.cells #[.int .u64 (p.1.1 : Int), .int .u64 (p.1.2 : Int), .int .i64 p.2] 38)
  have H1 := H.below hb
  have hpb := Blk.new_at w #[.int .u64 (p.1.1 : Int), .int .u64 (p.1.2 : Int), .int .i64 p.2] 38 w.heap.size rfl
  have hgw := H.top.lt
  have hqw := H.bk.lt
  have c1 := hid (fun w => rk_two hok.s64 hok.n2 p hp w)
  have l1 := b1_lt hok.n1 p
  have l2 := b2_lt hok.n1 p
  have hn2 := hok.n2
  have HL4 := hid hok.len
  have HSRT := hid hok.srt
  have HH := hid H1
  have HB := hid hb
  have HPB := hid hpb
  have HV1 := hid (get_b hok l1 (p := p))
  have HV2 := hid (get_b hok l2 (p := p))
  have HV3 := hid (get_st hok (p := p))
  have HV4 := hid (get_none hok (p := p))
  have HAL := hid (fun i (h : i < t.n) => set_at (t := t) h)
  have HD1 := hid (show hasB (t.at (t.b1 p)) p = true → delT t p = t.set (t.b1 p) (takeB (t.at (t.b1 p)) p) from fun h => by unfold delT; rw [if_pos h])
  have HD2 := hid (show hasB (t.at (t.b1 p)) p = false → hasB (t.at (t.b2 p)) p = true → delT t p = t.set (t.b2 p) (takeB (t.at (t.b2 p)) p) from fun h h2 => by unfold delT; rw [if_neg (by rw [h]; decide), if_pos h2])
  have HD3 := hid (show hasB (t.at (t.b1 p)) p = false → hasB (t.at (t.b2 p)) p = false → delT t p = { t with st := withoutL t.st p } from fun h h2 => by unfold delT; rw [if_neg (by rw [h]; decide), if_neg (by rw [h2]; decide)])
  obtain ⟨A, cap, rfl, hmc, hcm, hA⟩ := Owns.form H.st
  unfold maxLen at hcm
  have HLT := hid (show hasB (t.at (t.b1 p)) p = false → hasB (t.at (t.b2 p)) p = false → hasT t p = decide ((withoutL t.st p).length < t.st.length) from fun h1 h2 => by
    cases h3 : srchB t.st p
    · rw [(get_none hok h1 h2 h3).1, without_no (by have := absent_tc hok h1 h2 h3; have := st_le_tc (keyIs p) t; omega)]
      exact (decide_eq_false (by omega)).symm
    · obtain ⟨u, hu, hh, _⟩ := get_st hok h3
      have h4 := ((without_len hok.srt p).2 ⟨_, List.mem_of_getElem? hu, rfl⟩)
      rw [hh]
      exact (decide_eq_true (by omega)).symm)
  have HLW := hid (without_le t.st p)
  generalize hasT t p = hh at *
  generalize valT t p = vv at *
  generalize delT t p = R at *
  generalize t.b1 p = x1 at *
  generalize t.b2 p = x2 at *
  have hrd := hid (fun (w' : World) (h : RwQ w' g q (.slice A t.st.length cap) t) => ref_without w' _ t.st (Rd.of_owns (en := rtEn) h.st rtEn_length) hst p)
  clear hok hb hpb H1 H hA hFg hFq hFv
  obtain ⟨n, hn⟩ : ∃ n, t.n = n := ⟨_, rfl⟩
  have HN := hid hn
  rw [hn] at l1 l2 hn2 c1
  obtain ⟨s, hs⟩ : ∃ s, t.s = s := ⟨_, rfl⟩
  have HSS := hid hs
  rw [hs] at c1
  obtain ⟨m, hm⟩ : ∃ m, t.st.length = m := ⟨_, rfl⟩
  have HM := hid hm
  rw [hm] at hst hmc HH HF hrd HLT
  clear hn hm hs
  have hi0 : (0 : Int) ≤ (x1 : Int) := by omega
  have hi1 : (x1 : Int) < (n : Int) := by omega
  have hi2 : (0 : Int) ≤ (x2 : Int) := by omega
  have hi3 : (x2 : Int) < (n : Int) := by omega
  have r0 := HH.out.top.cellv (i := 0) rfl
  have r1 := HH.out.top.cellv (i := 1) rfl
  rw [HSS.out] at r0
  rw [HN.out] at r1
  have HR0 := hid r0
  have HR1 := hid r1
  clear r0 r1
  generalize hw0 : w.alloc (.cells #[.int .u64 (p.1.1 : Int), .int .u64 (p.1.2 : Int), .int .i64 p.2] 38) = w0 at *
  obtain ⟨⟨a, b⟩, i⟩ := p
  simp only at HPB c1 hrd
  subst hw0
  go_enter Tryz.func26, Tryz.ntmps26
  go_wp2_with fail
  generalize w.alloc (.cells #[.int .u64 (a : Int), .int .u64 (b : Int), .int .i64 i] 38) = w0 at *
  refine wp_region_later (fun w' => w'.cell? ⟨g, 0, none⟩ = some (.int .u64 (s : Int)) ∧ w'.cell? ⟨g, 1, none⟩ = some (.slice (some ⟨q, 0, none⟩) n n) ∧ w'.cell? ⟨w.heap.size, 0, none⟩ = some (.int .u64 (a : Int)) ∧ w'.cell? ⟨w.heap.size, 1, none⟩ = some (.int .u64 (b : Int)) ∧ w'.cell? ⟨w.heap.size, 2, none⟩ = some (.int .i64 i)) (fun z => ⟨z.cell HR0.out, z.cell HR1.out, z.cell (HPB.out.cellv rfl), z.cell (HPB.out.cellv rfl), z.cell (HPB.out.cellv rfl)⟩) (by kernel_rfl) (by kernel_rfl) (fun HS => ?_)
  repeat (go_big_quiet_step (with_reducible exact Later.calls _ (c1.out _)))
  refine wpQuiet_nil ?_
  rintro w1 ⟨⟨_, hb1⟩, rfl⟩
  have HB1 := hid (held_next HB.out hb1)
  have HH1 := hid (HH.out.below hb1)
  have HP1 := hid (HPB.out.below' hb1)
  clear hb1 HS HB HPB c1 HH HR0 HR1
  have hTd : RwQ w1.drew g q _ t := HH1.out.below (Below.refl _ _).drew
  have cT := rk_btake hTd (i := x1) (by rw [HN.out]; exact l1) HL4.out ((a, b), i)
  obtain ⟨hv, hhv⟩ : ∃ z, hasB (t.at x1) ((a, b), i) = z := ⟨_, rfl⟩
  have E1 := hid hhv
  rw [hhv] at cT
  have hpq : w.heap.size ≠ q := by omega
  have hS : w1.drew.cell? ⟨g, 1, none⟩ = some (.slice (some ⟨q, 0, none⟩) n n) ∧ w1.drew.cell? ⟨w.heap.size, 0, none⟩ = some (.int .u64 (a : Int)) ∧ w1.drew.cell? ⟨w.heap.size, 1, none⟩ = some (.int .u64 (b : Int)) ∧ w1.drew.cell? ⟨w.heap.size, 2, none⟩ = some (.int .i64 i) :=
    ⟨by rw [← HN.out]; exact hTd.top.cellv rfl, HP1.out.cellv rfl, HP1.out.cellv rfl, HP1.out.cellv rfl⟩
  clear hhv hTd
  cases hv
  · rw [takeB_no E1.out, HAL.out x1 (by rw [HN.out]; exact l1)] at cT
    have HCT := hid cT
    obtain ⟨hv2, hhv2⟩ : ∃ z, hasB (t.at x2) ((a, b), i) = z := ⟨_, rfl⟩
    have E2 := hid hhv2
    clear hhv2 cT
    go_wp2_with fail
    refine wp_region_seq (fun w' => w'.cell? ⟨g, 1, none⟩ = some (.slice (some ⟨q, 0, none⟩) n n) ∧ w'.cell? ⟨w.heap.size, 0, none⟩ = some (.int .u64 (a : Int)) ∧ w'.cell? ⟨w.heap.size, 1, none⟩ = some (.int .u64 (b : Int)) ∧ w'.cell? ⟨w.heap.size, 2, none⟩ = some (.int .i64 i)) (by kernel_rfl) hS ?_
    repeat (first
      | (refine seq_skip (by kernel_rfl) (fun _ _ _ h => h) rfl hS ?_
         simp only [Act.put, List.setIfInBounds_toArray, List.set_cons_zero, List.set_cons_succ])
      | (refine seq_still (v := ?_) (by kernel_rfl) (fun _ _ _ h => h) rfl (fun W hW => ?_) hS ?_
         rotate_left
         · try dsimp only at hW
           go_simp
           try with_reducible rfl
         simp only [Act.put, List.setIfInBounds_toArray, List.set_cons_zero, List.set_cons_succ])
)
    refine seq_alone (by kernel_rfl) rfl (fun K hK => ?_)
    go_simp
    refine HCT.out.mono ?_
    rintro _ w4 ⟨rfl, hT4, hC4⟩
    clear hS
    have hP4 := HP1.out.drew.chg hC4 hpq
    have hS : w4.cell? ⟨g, 1, none⟩ = some (.slice (some ⟨q, 0, none⟩) n n) ∧ w4.cell? ⟨w.heap.size, 0, none⟩ = some (.int .u64 (a : Int)) ∧ w4.cell? ⟨w.heap.size, 1, none⟩ = some (.int .u64 (b : Int)) ∧ w4.cell? ⟨w.heap.size, 2, none⟩ = some (.int .i64 i) :=
      ⟨by rw [← HN.out]; exact hT4.top.cellv rfl, hP4.cellv rfl, hP4.cellv rfl, hP4.cellv rfl⟩
    have cT2 := rk_btake hT4 (i := x2) (by rw [HN.out]; exact l2) HL4.out ((a, b), i)
    rw [E2.out] at cT2
    have HCT2 := hid cT2
    have HC4 := hid hC4
    have HP4 := hid hP4
    clear hT4 hC4 hP4 cT2 HCT
    refine hK.out _ _ hS ?_
    clear hK
    repeat (first
      | (refine seq_skip (by kernel_rfl) (fun _ _ _ h => h) rfl hS ?_
         simp only [Act.put, List.setIfInBounds_toArray, List.set_cons_zero, List.set_cons_succ])
      | (refine seq_still (v := ?_) (by kernel_rfl) (fun _ _ _ h => h) rfl (fun W hW => ?_) hS ?_
         rotate_left
         · try dsimp only at hW
           go_simp
           try with_reducible rfl
         simp only [Act.put, List.setIfInBounds_toArray, List.set_cons_zero, List.set_cons_succ])
)
    refine seq_alone (by kernel_rfl) rfl (fun K hK => ?_)
    go_simp
    refine HCT2.out.mono ?_
    rintro _ w5 ⟨rfl, hT5, hC5⟩
    clear hS
    have hP5 := HP4.out.chg hC5 hpq
    have hS : w5.cell? ⟨g, 1, none⟩ = some (.slice (some ⟨q, 0, none⟩) n n) ∧ w5.cell? ⟨w.heap.size, 0, none⟩ = some (.int .u64 (a : Int)) ∧ w5.cell? ⟨w.heap.size, 1, none⟩ = some (.int .u64 (b : Int)) ∧ w5.cell? ⟨w.heap.size, 2, none⟩ = some (.int .i64 i) :=
      ⟨by rw [← HN.out, ← Tb.set_n t x2]; exact hT5.top.cellv rfl, hP5.cellv rfl, hP5.cellv rfl, hP5.cellv rfl⟩
    have HC5 := hid hC5
    have HT5 := hid hT5
    have HP5 := hid hP5
    clear hT5 hC5 hP5 HP4 HCT2
    refine hK.out _ _ hS ?_
    clear hK
    repeat (first
      | (refine seq_skip (by kernel_rfl) (fun _ _ _ h => h) rfl hS ?_
         simp only [Act.put, List.setIfInBounds_toArray, List.set_cons_zero, List.set_cons_succ])
      | (refine seq_still (v := ?_) (by kernel_rfl) (fun _ _ _ h => h) rfl (fun W hW => ?_) hS ?_
         rotate_left
         · try dsimp only at hW
           go_simp
           try with_reducible rfl
         simp only [Act.put, List.setIfInBounds_toArray, List.set_cons_zero, List.set_cons_succ])
)
    refine seq_done (by kernel_rfl) ?_
    clear hS
    have hCQ := (Chg.of_below HB1.out F).drew.trans' ((HC4.out.trans' HC5.out).mono (S' := F) fun z _ e => by subst e; exact HF.out.2.1)
    have HCQ := hid hCQ
    clear hCQ HC4 HC5
    cases hv2
    · have hT5 := HT5.out
      rw [takeB_no E2.out, HAL.out x2 (by rw [HN.out]; exact l2)] at hT5
      have HT5' := hid hT5
      have p0 := HP5.out.cellv (i := 0) rfl
      have p1 := HP5.out.cellv (i := 1) rfl
      have p2 := HP5.out.cellv (i := 2) rfl
      have z0 : w5.drew.cell? ⟨w.heap.size, 0, none⟩ = some (.int .u64 (a : Int)) := p0
      have z1 : w5.drew.cell? ⟨w.heap.size, 1, none⟩ = some (.int .u64 (b : Int)) := p1
      have z2 : w5.drew.cell? ⟨w.heap.size, 2, none⟩ = some (.int .i64 i) := p2
      have y2 : w5.cell? ⟨g, 2, none⟩ = some (.slice A m cap) := hT5.top.cellv rfl
      have y3 : w5.drew.cell? ⟨g, 2, none⟩ = some (.slice A m cap) := y2
      have cW := hid (hrd.out w5.drew (hT5.below (Below.refl _ _).drew))
      clear hT5 HT5
      have HR := hid (HD3.out E1.out E2.out)
      have HVE := hid (HLT.out E1.out E2.out)
      have hz5 := HCQ.out.size
      go_wp2_with fail
      go_region_law? (first | (go_simp; go_at_call 51; refine cW.out.mono ?_; rintro _ w6 ⟨v6, rfl, hO6, hb6⟩; obtain ⟨A6, c6, hv6⟩ := hO6.form; subst hv6; have hb6' : Below w5.heap.size w5 w6 := (Below.refl w5.heap.size w5).drew.trans hb6; have f2 := (HT5'.out.below hb6').top.frozen 2; have y4 : w6.cell? ⟨g, 2, none⟩ = some (.slice A m cap) := (HT5'.out.below hb6').top.cellv (i := 2) rfl))
      all_goals
        have hQ6 := HT5'.out.stash (show OwnRts w5 _ w6 _ from hO6) hb6'
        have HQ6 := hid hQ6
        have HC6 := hid ((HCQ.out.trans' (Chg.of_below hb6' F)).trans' ((Chg.store w6 g 2 (.slice A6 (withoutL t.st ((a, b), i)).length c6)).mono (S' := F) fun z _ e => by subst e; exact HF.out.1))
        have HNW := hid (fun z hz => (Owns.base_le hO6 z hz).1)
        clear hO6 hb6 hb6' hQ6 cW p0 p1 p2 z0 z1 z2 y2 y3
        go_wp2_with fail
        go_ret
        refine ⟨by rw [HVE.out] <;> rfl, ?_, HC6.out⟩
        rw [HR.out]
        exact RwF.of HQ6.out ⟨.inl HF.out.1, .inl HF.out.2.1, fun z hz => .inr (by have := HNW.out z hz; exact Nat.le_trans hz5 this)⟩
    · have hve := (HV2.out E2.out).1
      have HVE := hid hve
      clear hve
      go_wp2_with fail
      go_ret
      refine ⟨by rw [HVE.out] <;> rfl, ?_, HCQ.out⟩
      rw [HD2.out E1.out E2.out]
      exact RwF.of HT5.out ⟨.inl HF.out.1, .inl HF.out.2.1, fun z hz => .inl (HF.out.2.2 z hz)⟩
  · have HCT := hid cT
    have hve := (HV1.out E1.out).1
    have HVE := hid hve
    clear cT hve
    go_wp2_with fail
    refine wp_region_seq (fun w' => w'.cell? ⟨g, 1, none⟩ = some (.slice (some ⟨q, 0, none⟩) n n) ∧ w'.cell? ⟨w.heap.size, 0, none⟩ = some (.int .u64 (a : Int)) ∧ w'.cell? ⟨w.heap.size, 1, none⟩ = some (.int .u64 (b : Int)) ∧ w'.cell? ⟨w.heap.size, 2, none⟩ = some (.int .i64 i)) (by kernel_rfl) hS ?_
    repeat (first
      | (refine seq_skip (by kernel_rfl) (fun _ _ _ h => h) rfl hS ?_
         simp only [Act.put, List.setIfInBounds_toArray, List.set_cons_zero, List.set_cons_succ])
      | (refine seq_still (v := ?_) (by kernel_rfl) (fun _ _ _ h => h) rfl (fun W hW => ?_) hS ?_
         rotate_left
         · try dsimp only at hW
           go_simp
           try with_reducible rfl
         simp only [Act.put, List.setIfInBounds_toArray, List.set_cons_zero, List.set_cons_succ])
)
    refine seq_alone (by kernel_rfl) rfl (fun K hK => ?_)
    go_simp
    refine HCT.out.mono ?_
    rintro _ w4 ⟨rfl, hT4, hC4⟩
    clear hS
    have hP4 := HP1.out.drew.chg hC4 hpq
    have hS : w4.cell? ⟨g, 1, none⟩ = some (.slice (some ⟨q, 0, none⟩) n n) ∧ w4.cell? ⟨w.heap.size, 0, none⟩ = some (.int .u64 (a : Int)) ∧ w4.cell? ⟨w.heap.size, 1, none⟩ = some (.int .u64 (b : Int)) ∧ w4.cell? ⟨w.heap.size, 2, none⟩ = some (.int .i64 i) :=
      ⟨by rw [← HN.out, ← Tb.set_n t x1]; exact hT4.top.cellv rfl, hP4.cellv rfl, hP4.cellv rfl, hP4.cellv rfl⟩
    have HC4 := hid hC4
    have HT4 := hid hT4
    clear hT4 hC4 hP4 HCT
    refine hK.out _ _ hS ?_
    clear hK
    repeat (first
      | (refine seq_skip (by kernel_rfl) (fun _ _ _ h => h) rfl hS ?_
         simp only [Act.put, List.setIfInBounds_toArray, List.set_cons_zero, List.set_cons_succ])
      | (refine seq_still (v := ?_) (by kernel_rfl) (fun _ _ _ h => h) rfl (fun W hW => ?_) hS ?_
         rotate_left
         · try dsimp only at hW
           go_simp
           try with_reducible rfl
         simp only [Act.put, List.setIfInBounds_toArray, List.set_cons_zero, List.set_cons_succ])
)
    refine seq_done (by kernel_rfl) ?_
    clear hS
    have hCQ := (Chg.of_below HB1.out F).drew.trans' (HC4.out.mono (S' := F) fun z _ e => by subst e; exact HF.out.2.1)
    have HCQ := hid hCQ
    clear hCQ HC4
    go_wp2_with fail
    go_ret
    refine ⟨by rw [HVE.out] <;> rfl, ?_, HCQ.out⟩
    rw [HD1.out E1.out]
    exact RwF.of HT4.out ⟨.inl HF.out.1, .inl HF.out.2.1, fun z hz => .inl (HF.out.2.2 z hz)⟩

end Go.Proofs.YtpjjijhojcfmnaaGreat
