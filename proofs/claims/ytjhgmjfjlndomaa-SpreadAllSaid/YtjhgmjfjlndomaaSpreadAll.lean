/-
  The walk of the law SpreadAll: for all inputs it returns true and leaves memory alone. No condition.
-/
import Derived.Test.YtjhgmjfjlndomaaSpreadHalves
namespace Go.Proofs.Ytjhgmjfjlndomaa
open Go.RowKit
set_option linter.unusedVariables false
set_option linter.unusedSimpArgs false
set_option maxRecDepth 100000

/-- How many of the first i have it. -/
def cntB (P : Nat → Bool) (i : Nat) : Nat := ((List.range i).filter P).length
theorem cntB_succ (P : Nat → Bool) (i : Nat) : cntB P (i + 1) = cntB P i + if P i = true then 1 else 0 := by
  unfold cntB; rw [List.range_succ, List.filter_append]; by_cases h : P i = true <;> simp [h]
theorem cntB_le (P : Nat → Bool) (i : Nat) : cntB P i ≤ i := by
  unfold cntB; have := List.length_filter_le P (List.range i); simpa using this
theorem cntB_one {P : Nat → Bool} {L i0 : Nat} (h : ∀ j, j < L → (P j = true ↔ j = i0)) : ∀ j, j ≤ L → cntB P j = if i0 < j then 1 else 0
  | 0, _ => by simp [cntB]
  | j + 1, hj => by
    rw [cntB_succ, cntB_one h j (by omega)]
    have := h j (by omega)
    by_cases hp : P j = true
    · have e := this.1 hp; rw [if_pos hp, if_neg (by omega), if_pos (by omega)]
    · have e : ¬ j = i0 := fun k => hp (this.2 k)
      rw [if_neg hp]
      by_cases h1 : i0 < j
      · rw [if_pos h1, if_pos (by omega)]
      · rw [if_neg h1, if_neg (by omega)]
theorem cntB_none {P : Nat → Bool} {L : Nat} (h : ∀ j, j < L → P j = false) : cntB P L = 0 := by
  unfold cntB; rw [List.length_eq_zero_iff, List.filter_eq_nil_iff]; intro j hj; rw [h j (by simpa using hj)]; decide

theorem spreadAll_out (W : World) (a b : Ad) (n more : Int) (wn : (Lit.int .i64 n).wf = true) (wm : (Lit.int .i64 more).wf = true) (h : ¬ (0 ≤ n ∧ 0 ≤ more ∧ more ≤ 8 ∧ n ≤ 128 - more)) :
    Calls Try.prog 4 #[.agg #[.int .u64 (a.1 : Int), .int .u64 (a.2 : Int)], .agg #[.int .u64 (b.1 : Int), .int .u64 (b.2 : Int)], .int .i64 n, .int .i64 more] W fun e W' => e = .returned (.bool true) ∧ Below W.heap.size W W' := by
  have b1 := wf_i64 wn
  have b2 := wf_i64 wm
  clear wn wm
  obtain ⟨x, y⟩ := a
  obtain ⟨z, t⟩ := b
  go_enter Try.func4, Try.ntmps4
  go_wp2_with fail
  refine (spread_alive _).mono ?_
  rintro e w1 ⟨rfl, hb⟩
  have hb' := hid (Below.trans (b := _) (((Below.refl W.heap.size W).alloc (Nat.le_refl _) _).alloc (by simp) _) (hb.mono (by simp; omega)))
  clear hb
  go_wp2_with fail
  all_goals (go_ret; exact ⟨rfl, hb'.out⟩)

def AllLoop (W : World) (q : Ad) (b : Ad) (gp : Nat) (n N L : Nat) (P : Nat → Bool) (v k i : Value) (wr : World) : Prop :=
  ∃ j : Nat, j ≤ L ∧ i = .int .i64 j ∧ k = .int .i64 (cntB P j : Int) ∧ Rd pfEn 3 wr v (keysOf q n N) ∧ Blk wr gp 26 [.int .u64 (q.1 : Int), .int .u64 (q.2 : Int), .int .i64 (n : Int)] ∧
    Blk wr (W.heap.size + 1) 24 [.int .u64 (b.1 : Int), .int .u64 (b.2 : Int)] ∧ Below W.heap.size W wr

set_option maxHeartbeats 1000000 in
theorem spreadAll_in (W : World) (a b : Ad) (ha : a.ok) (hb : b.ok) (n more : Nat) (h8 : more ≤ 8) (hn : n + more ≤ 128) :
    Calls Try.prog 4 #[.agg #[.int .u64 (a.1 : Int), .int .u64 (a.2 : Int)], .agg #[.int .u64 (b.1 : Int), .int .u64 (b.2 : Int)], .int .i64 (n : Int), .int .i64 (more : Int)] W fun e W' => e = .returned (.bool true) ∧ Below W.heap.size W W' := by
  obtain ⟨q, hq⟩ : ∃ q, q = a.cut n := ⟨_, rfl⟩
  have hqo : q.ok := hq ▸ Ad.cut_ok ha n
  have hqm : q.num % 2 ^ (128 - n) = 0 := hq ▸ cut_mod ha n (by omega)
  obtain ⟨N, hN⟩ : ∃ N, N = n + more := ⟨_, rfl⟩
  obtain ⟨L, hL⟩ : ∃ L, L = 2 ^ (N - n) := ⟨_, rfl⟩
  have hLm : (2 : Nat) ^ more = L := by rw [hL, hN, Nat.add_sub_cancel_left]
  have hL256 : L ≤ 256 := by
    rw [hL]
    calc 2 ^ (N - n) ≤ 2 ^ 8 := Nat.pow_le_pow_right (by decide) (by omega)
      _ = 256 := rfl
  have hNi : ((N : Nat) : Int) = (n : Int) + (more : Int) := by omega
  have c1 := hid fun w => ref_cutN a ha n (by omega) q hq.symm w
  have k1 := keysP_in (q := q) (m := n) (n := N) (i := (n : Int)) (j := (n : Int) + (more : Int)) rfl (by omega) hqo hqm (by omega) (by omega) (by omega)
  have c2 := hid fun w => spread_keys (q, (n : Int)) hqo ((n : Int) + (more : Int)) w
  rw [k1] at c2
  have HG := hid fun i (h : i < L) => keysOf_get q n N i (by rw [← hL]; exact h)
  have HLen := hid (show (keysOf q n N).length = L by rw [keysOf_length, hL])
  have c3 := hid fun i (h : i < L) w => ref_right (keyAt q N i) (key_ok hqo hqm (show n ≤ N by omega) (by omega) (show i < 2 ^ (N - n) by omega)) ((n : Int) + (more : Int)) true (by rw [← hNi]; exact (decide_eq_true (key_right hqo hqm (show n ≤ N by omega) (by omega) (show i < 2 ^ (N - n) by omega))).symm) w
  have c4 := hid fun i (h : i < L) w => ref_has q (keyAt q N i) hqo (key_ok hqo hqm (show n ≤ N by omega) (by omega) (show i < 2 ^ (N - n) by omega)) (n : Int) true ((decide_eq_true (key_has hqo hqm (show n ≤ N by omega) (by omega) (show i < 2 ^ (N - n) by omega))).symm) w
  have c5 := hid fun i (h : i + 1 < L) w => ref_less (keyAt q N i, (n : Int) + (more : Int)) (keyAt q N (i + 1), (n : Int) + (more : Int)) true (by rw [← hNi]; exact (decide_eq_true (key_less hqo hqm (show n ≤ N by omega) (by omega) (show i < i + 1 by omega) (show i + 1 < 2 ^ (N - n) by omega))).symm) w
  obtain ⟨P, hP⟩ : ∃ P : Nat → Bool, P = fun i => decide (Pf.has (keyAt q N i, (N : Int)) b) := ⟨_, rfl⟩
  have c6 := hid fun i (h : i < L) w => ref_has (keyAt q N i) b (key_ok hqo hqm (show n ≤ N by omega) (by omega) (show i < 2 ^ (N - n) by omega)) hb ((n : Int) + (more : Int)) (P i) (by rw [hP, ← hNi]) w
  obtain ⟨hp, hhp⟩ : ∃ hp : Bool, hp = decide (Pf.has (q, (n : Int)) b) := ⟨_, rfl⟩
  have c7 := hid fun w => ref_has q b hqo hb (n : Int) hp hhp w
  have HC := hid (show cntB P L = if hp = true then 1 else 0 by
    by_cases h : Pf.has (q, (n : Int)) b
    · obtain ⟨i0, hi0, hj⟩ := key_of hqo hb hqm (show n ≤ N by omega) (by omega) h
      rw [cntB_one (L := L) (i0 := i0) (fun j hj' => by rw [hP]; simpa using hj j (by omega)) L (Nat.le_refl _), if_pos (by omega), if_pos (by rw [hhp]; exact decide_eq_true h)]
    · rw [cntB_none (fun j hj => by rw [hP]; exact decide_eq_false (key_not hqo hb hqm (show n ≤ N by omega) (by omega) h j (by omega))), if_neg (by rw [hhp]; simpa using h)])
  have hmi : (more : Int) ≤ 8 := by omega
  have HNI := hid hNi
  have HLM := hid hLm
  have d1 : decide ((n : Int) < 0) = false := decide_eq_false (by omega)
  have d2 : decide ((more : Int) < 0) = false := decide_eq_false (by omega)
  have d3 : decide ((8 : Int) < (more : Int)) = false := decide_eq_false (by omega)
  have d4 : decide (128 - (more : Int) < (n : Int)) = false := decide_eq_false (by omega)
  clear hhp hP k1 hL hLm hN hqm hqo hq ha hNi
  obtain ⟨x, y⟩ := a
  obtain ⟨z, t⟩ := b
  obtain ⟨qx, qy⟩ := q
  go_enter Try.func4, Try.ntmps4
  go_wp2_with fail
  refine (spread_alive _).mono ?_
  rintro e w1 ⟨rfl, hb1⟩
  have BA := ((Blk.new_at W #[.int .u64 (x : Int), .int .u64 (y : Int)] 24 W.heap.size rfl).alloc (.cells #[.int .u64 (z : Int), .int .u64 (t : Int)] 24)).below (k := hb1) (by simp; omega)
  have BB := hid ((Blk.new_at (W.alloc (.cells #[.int .u64 (x : Int), .int .u64 (y : Int)] 24)) #[.int .u64 (z : Int), .int .u64 (t : Int)] 24 (W.heap.size + 1) (by simp)).below' hb1)
  have HB1 := hid (Below.trans (b := _) (((Below.refl W.heap.size W).alloc (Nat.le_refl _) _).alloc (by simp) _) (hb1.mono (by simp; omega)))
  have s0 := BA.cellv (i := 0) rfl
  have s1 := BA.cellv (i := 1) rfl
  clear hb1 BA
  go_wp2_with fail
  refine (c1.out _).mono ?_
  rintro e w2 ⟨rfl, hb2⟩
  have HB2 := hid (held_next HB1.out hb2)
  have BB2 := hid (BB.out.below' hb2)
  have hs2 := HB2.out.size
  have BP := hid (Blk.new_at w2 #[.int .u64 (qx : Int), .int .u64 (qy : Int), .int .i64 (n : Int)] 26 w2.heap.size rfl)
  have HB2' := hid (HB2.out.alloc hs2 (.cells #[.int .u64 (qx : Int), .int .u64 (qy : Int), .int .i64 (n : Int)] 26))
  have BB2' := hid (BB2.out.alloc (.cells #[.int .u64 (qx : Int), .int .u64 (qy : Int), .int .i64 (n : Int)] 26))
  have hlt : W.heap.size + 1 < w2.heap.size := BB2.out.lt
  clear hb2 HB1 s0 s1 BB BB2 HB2
  go_wp2_with fail
  refine (c2.out _).mono ?_
  rintro e w3 ⟨v1, rfl, hO1, hb3⟩
  have BP3 := hid (BP.out.below' hb3)
  have BB3 := hid (BB2'.out.below' hb3)
  have HB3 := hid (held_next HB2'.out hb3)
  have HR := hid hO1.rd
  obtain ⟨A1, cap1, rfl⟩ := hO1.form
  rw [HLen.out]
  clear hb3 BP HB2' BB2' hO1
  have hpw : wrap64 ((2 : Int) ^ more) = (L : Int) := by
    have := HLM.out
    rw [show ((2 : Int) ^ more) = ((2 ^ more : Nat) : Int) from by simp, this]; unfold wrap64; omega
  have hnn : ((L : Int) != (L : Int)) = false := by simp
  go_wp2_with fail
  clear d1 d2 d3 d4 hpw hnn
  go_loopw [12, 13] (fun k i wr => AllLoop W (qx, qy) (z, t) w2.heap.size n N L P (.slice A1 L cap1) k i wr) (fun _ i _ => L - (intOf i).toNat)
  case atStart => exact ⟨0, Nat.zero_le _, rfl, rfl, by have h := HR.out; rw [HLen.out] at h; exact h, BP3.out, BB3.out, HB3.out⟩
  case round =>
    clear HR BP3 BB3 HB3
    obtain ⟨i, hi, rfl, rfl, hR, hBP, hBB, hB⟩ := hrel
    have hcl := cntB_le P i
    have p0 := hBP.cellv (i := 0) rfl
    have p1 := hBP.cellv (i := 1) rfl
    have p2 := hBP.cellv (i := 2) rfl
    have b0 := hBB.cellv (i := 0) rfl
    have b1 := hBB.cellv (i := 1) rfl
    by_cases hlt2 : i < L
    · obtain ⟨g, o, cap2, hv, _, _, hgl, hcell⟩ := hR.get pfEn_len (by decide) (HG.out i hlt2)
      rw [HLen.out] at hv
      injection hv with hA _ hcap
      subst hA
      subst hcap
      have a3 := hid (c3.out i hlt2)
      have a4 := hid (c4.out i hlt2)
      have a6 := hid (c6.out i hlt2)
      have hNext := hid (cntB_succ P i)
      have HR2 := hid hR
      have HBP := hid hBP
      have HBB := hid hBB
      have HB := hid hB
      have hHP := hBP.lt
      have hHB := hBB.lt
      have hi0 : (0 : Int) ≤ (i : Int) := by omega
      have hi1 : (i : Int) < (L : Int) := by omega
      have HY := hid fun j c h => hcell j c h
      clear hcell hBP hBB hB
      have hcons : i = 0 ∨ ∃ j, i = j + 1 := by cases i with
        | zero => exact .inl rfl
        | succ j => exact .inr ⟨j, rfl⟩
      rcases hcons with rfl | ⟨j, rfl⟩
      · have y0 : wr.cell? ⟨g, o, none⟩ = some (.int .u64 ((keyAt (qx, qy) N 0).1 : Int)) := by simpa using HY.out 0 _ rfl
        have y1 : wr.cell? ⟨g, o + 1, none⟩ = some (.int .u64 ((keyAt (qx, qy) N 0).2 : Int)) := by simpa using HY.out 1 _ rfl
        have y2 : wr.cell? ⟨g, o + 2, none⟩ = some (.int .i64 ((n : Int) + (more : Int))) := by rw [← HNI.out]; simpa using HY.out 2 _ rfl
        clear hR
        generalize keyAt (qx, qy) N 0 = K at y0 y1 a3 a4 a6
        obtain ⟨kx, ky⟩ := K
        clear HY
        go_wp2_with fail
        refine wp_region_later (fun w' => w'.cell? ⟨g, o, none⟩ = some (.int .u64 (kx : Int)) ∧ w'.cell? ⟨g, o + 1, none⟩ = some (.int .u64 (ky : Int)) ∧ w'.cell? ⟨g, o + 2, none⟩ = some (.int .i64 ((n : Int) + (more : Int))) ∧
            w'.cell? ⟨w2.heap.size, 0, none⟩ = some (.int .u64 (qx : Int)) ∧ w'.cell? ⟨w2.heap.size, 1, none⟩ = some (.int .u64 (qy : Int)) ∧ w'.cell? ⟨w2.heap.size, 2, none⟩ = some (.int .i64 (n : Int)))
          (fun x => ⟨x.cell y0, x.cell y1, x.cell y2, x.cell p0, x.cell p1, x.cell p2⟩) (by kernel_rfl) (by kernel_rfl) (fun HS => ?_)
        repeat (go_big_quiet_step (first
          | (with_reducible exact Later.calls _ (a3.out _))
          | (with_reducible exact Later.calls _ (a4.out _))))
        refine wpQuiet_nil ?_
        rintro w4 ⟨⟨_, hb4⟩, rfl⟩
        clear HS
        have y0 := (Later.mk w4 hb4).cell y0
        have y1 := (Later.mk w4 hb4).cell y1
        have y2 := (Later.mk w4 hb4).cell y2
        have b0 := (Later.mk w4 hb4).cell b0
        have b1 := (Later.mk w4 hb4).cell b1
        simp only at y0 y1 y2 b0 b1
        obtain ⟨bi, hbi⟩ : ∃ bi, P 0 = bi := ⟨_, rfl⟩
        have HBI := hid hbi
        rw [hbi] at a6
        clear hbi
        go_wp2_with fail
        refine wp_region_later (fun w' => w'.cell? ⟨g, o, none⟩ = some (.int .u64 (kx : Int)) ∧ w'.cell? ⟨g, o + 1, none⟩ = some (.int .u64 (ky : Int)) ∧ w'.cell? ⟨g, o + 2, none⟩ = some (.int .i64 ((n : Int) + (more : Int))) ∧
            w'.cell? ⟨W.heap.size + 1, 0, none⟩ = some (.int .u64 (z : Int)) ∧ w'.cell? ⟨W.heap.size + 1, 1, none⟩ = some (.int .u64 (t : Int)))
          (fun x => ⟨x.cell y0, x.cell y1, x.cell y2, x.cell b0, x.cell b1⟩) (by kernel_rfl) (by kernel_rfl) (fun HS => ?_)
        repeat (go_big_quiet_step (with_reducible exact Later.calls _ (a6.out _)))
        refine wpQuiet_nil ?_
        rintro w5 ⟨⟨_, hb5⟩, rfl⟩
        have hb45 := hid (held_next hb4 hb5)
        have HR5 := hid (HR2.out.below pfEn_len hb45.out)
        have HP5 := hid (HBP.out.below' hb45.out)
        have HB5 := hid (HBB.out.below' hb45.out)
        have HBE := hid (held_next HB.out hb45.out)
        clear HS y0 y1 y2 b0 b1 p0 p1 p2 HR2 HBP HBB HB hb4 hb5 hb45
        cases bi
        · have hn := hid (show cntB P (0 + 1) = cntB P 0 by rw [hNext.out, HBI.out]; simp)
          go_wp2_with fail
          go_roundw
          case rel => exact ⟨0 + 1, by omega, by go_num, by rw [hn.out], HR5.out, HP5.out, HB5.out, HBE.out⟩
          case measure => simp [intOf]; omega
        · have hn := hid (show cntB P (0 + 1) = cntB P 0 + 1 by rw [hNext.out, HBI.out]; simp)
          go_wp2_with fail
          go_roundw
          case rel => exact ⟨0 + 1, by omega, by go_num, by rw [hn.out]; go_num, HR5.out, HP5.out, HB5.out, HBE.out⟩
          case measure => simp [intOf]; omega
      · have y0 : wr.cell? ⟨g, o + (j + 1) * 3, none⟩ = some (.int .u64 ((keyAt (qx, qy) N (j + 1)).1 : Int)) := HY.out 0 _ rfl
        have y1 : wr.cell? ⟨g, o + (j + 1) * 3 + 1, none⟩ = some (.int .u64 ((keyAt (qx, qy) N (j + 1)).2 : Int)) := HY.out 1 _ rfl
        have y2 : wr.cell? ⟨g, o + (j + 1) * 3 + 2, none⟩ = some (.int .i64 ((n : Int) + (more : Int))) := by rw [← HNI.out]; exact HY.out 2 _ rfl
        obtain ⟨g', o', cap3, hv, _, _, _, hcell3⟩ := hR.get pfEn_len (by decide) (HG.out j (by omega))
        injection hv with hA hx3 hc3
        clear hx3
        subst hc3
        injection hA with hA
        injection hA with hA1 hA2
        subst hA1
        subst hA2
        have z0 : wr.cell? ⟨g, o + j * 3, none⟩ = some (.int .u64 ((keyAt (qx, qy) N j).1 : Int)) := hcell3 0 _ rfl
        have z1 : wr.cell? ⟨g, o + j * 3 + 1, none⟩ = some (.int .u64 ((keyAt (qx, qy) N j).2 : Int)) := hcell3 1 _ rfl
        have z2 : wr.cell? ⟨g, o + j * 3 + 2, none⟩ = some (.int .i64 ((n : Int) + (more : Int))) := by rw [← HNI.out]; exact hcell3 2 _ rfl
        have a5 := hid (c5.out j hlt2)
        clear hR hcell3 HY
        generalize keyAt (qx, qy) N (j + 1) = K at y0 y1 a3 a4 a5 a6
        generalize keyAt (qx, qy) N j = K2 at z0 z1 a5
        obtain ⟨kx, ky⟩ := K
        obtain ⟨kx2, ky2⟩ := K2
        have hj0 : (0 : Int) ≤ (j : Int) := by omega
        have hj1 : (j : Int) < (L : Int) := by omega
        have e1 : IntKind.i64.wrap (((j + 1 : Nat) : Int) - 1) = (j : Int) := by rw [IntKind.wrap_i64]; omega
        have e2 : decide ((0 : Int) < ((j + 1 : Nat) : Int)) = true := decide_eq_true (by omega)
        go_wp2_with fail
        refine wp_region_later (fun w' => w'.cell? ⟨g, o + (j + 1) * 3, none⟩ = some (.int .u64 (kx : Int)) ∧ w'.cell? ⟨g, o + (j + 1) * 3 + 1, none⟩ = some (.int .u64 (ky : Int)) ∧ w'.cell? ⟨g, o + (j + 1) * 3 + 2, none⟩ = some (.int .i64 ((n : Int) + (more : Int))) ∧
            w'.cell? ⟨g, o + j * 3, none⟩ = some (.int .u64 (kx2 : Int)) ∧ w'.cell? ⟨g, o + j * 3 + 1, none⟩ = some (.int .u64 (ky2 : Int)) ∧ w'.cell? ⟨g, o + j * 3 + 2, none⟩ = some (.int .i64 ((n : Int) + (more : Int))) ∧
            w'.cell? ⟨w2.heap.size, 0, none⟩ = some (.int .u64 (qx : Int)) ∧ w'.cell? ⟨w2.heap.size, 1, none⟩ = some (.int .u64 (qy : Int)) ∧ w'.cell? ⟨w2.heap.size, 2, none⟩ = some (.int .i64 (n : Int)))
          (fun x => ⟨x.cell y0, x.cell y1, x.cell y2, x.cell z0, x.cell z1, x.cell z2, x.cell p0, x.cell p1, x.cell p2⟩) (by kernel_rfl) (by kernel_rfl) (fun HS => ?_)
        repeat (go_big_quiet_step (first
          | (with_reducible exact Later.calls _ (a3.out _))
          | (with_reducible exact Later.calls _ (a4.out _))
          | (with_reducible exact Later.calls _ (a5.out _))))
        refine wpQuiet_nil ?_
        rintro w4 ⟨⟨_, hb4⟩, rfl⟩
        clear HS z0 z1 z2
        have y0 := (Later.mk w4 hb4).cell y0
        have y1 := (Later.mk w4 hb4).cell y1
        have y2 := (Later.mk w4 hb4).cell y2
        have b0 := (Later.mk w4 hb4).cell b0
        have b1 := (Later.mk w4 hb4).cell b1
        simp only at y0 y1 y2 b0 b1
        obtain ⟨bi, hbi⟩ : ∃ bi, P (j + 1) = bi := ⟨_, rfl⟩
        have HBI := hid hbi
        rw [hbi] at a6
        clear hbi
        go_wp2_with fail
        refine wp_region_later (fun w' => w'.cell? ⟨g, o + (j + 1) * 3, none⟩ = some (.int .u64 (kx : Int)) ∧ w'.cell? ⟨g, o + (j + 1) * 3 + 1, none⟩ = some (.int .u64 (ky : Int)) ∧ w'.cell? ⟨g, o + (j + 1) * 3 + 2, none⟩ = some (.int .i64 ((n : Int) + (more : Int))) ∧
            w'.cell? ⟨W.heap.size + 1, 0, none⟩ = some (.int .u64 (z : Int)) ∧ w'.cell? ⟨W.heap.size + 1, 1, none⟩ = some (.int .u64 (t : Int)))
          (fun x => ⟨x.cell y0, x.cell y1, x.cell y2, x.cell b0, x.cell b1⟩) (by kernel_rfl) (by kernel_rfl) (fun HS => ?_)
        repeat (go_big_quiet_step (with_reducible exact Later.calls _ (a6.out _)))
        refine wpQuiet_nil ?_
        rintro w5 ⟨⟨_, hb5⟩, rfl⟩
        have hb45 := hid (held_next hb4 hb5)
        have HR5 := hid (HR2.out.below pfEn_len hb45.out)
        have HP5 := hid (HBP.out.below' hb45.out)
        have HB5 := hid (HBB.out.below' hb45.out)
        have HBE := hid (held_next HB.out hb45.out)
        clear HS y0 y1 y2 b0 b1 p0 p1 p2 HR2 HBP HBB HB hb4 hb5 hb45
        cases bi
        · have hn := hid (show cntB P ((j + 1) + 1) = cntB P (j + 1) by rw [hNext.out, HBI.out]; simp)
          go_wp2_with fail
          go_roundw
          case rel => exact ⟨(j + 1) + 1, by omega, by go_num, by rw [hn.out], HR5.out, HP5.out, HB5.out, HBE.out⟩
          case measure => simp [intOf]; omega
        · have hn := hid (show cntB P ((j + 1) + 1) = cntB P (j + 1) + 1 by rw [hNext.out, HBI.out]; simp)
          go_wp2_with fail
          go_roundw
          case rel => exact ⟨(j + 1) + 1, by omega, by go_num, by rw [hn.out]; go_num, HR5.out, HP5.out, HB5.out, HBE.out⟩
          case measure => simp [intOf]; omega
    · obtain rfl : i = L := by omega
      have HB := hid hB
      have HP := hid hBP
      have hcc := HC.out
      generalize cntB P i = c at hcc hcl
      have hcv : (hp = true ∧ c = 1) ∨ (hp = false ∧ c = 0) := by cases hp <;> simp_all
      clear hcc hR hBB hB hBP hlt2 hi HC
      rcases hcv with ⟨rfl, rfl⟩ | ⟨rfl, rfl⟩
      all_goals
        go_wp2_with fail
        refine (c7.out _).mono ?_
        rintro _ w5 ⟨rfl, hb5⟩
        have HB5 := hid (held_next HB.out hb5)
        clear hb5
        go_wp2_with fail
        go_ret
        exact ⟨rfl, HB5.out⟩

theorem spreadAll_walk (W : World) (a : Ad) (ha : a.ok) (b : Ad) (hb : b.ok) (n : Int) (wn : (Lit.int .i64 n).wf = true) (more : Int) (wm : (Lit.int .i64 more).wf = true) :
    Calls Try.prog 4 #[.agg #[.int .u64 (a.1 : Int), .int .u64 (a.2 : Int)], .agg #[.int .u64 (b.1 : Int), .int .u64 (b.2 : Int)], .int .i64 n, .int .i64 more] W fun e W' => e = .returned (.bool true) ∧ Below W.heap.size W W' := by
  by_cases h : 0 ≤ n ∧ 0 ≤ more ∧ more ≤ 8 ∧ n ≤ 128 - more
  · obtain ⟨h1, h2, h3, h4⟩ := h
    obtain ⟨n, rfl⟩ := Int.eq_ofNat_of_zero_le h1
    obtain ⟨more, rfl⟩ := Int.eq_ofNat_of_zero_le h2
    exact spreadAll_in W a b ha hb n more (by omega) (by omega)
  · exact spreadAll_out W a b n more wn wm h

end Go.Proofs.Ytjhgmjfjlndomaa
