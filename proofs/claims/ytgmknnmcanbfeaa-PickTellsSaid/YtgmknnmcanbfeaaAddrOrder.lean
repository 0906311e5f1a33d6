/-
  The walk of the law AddrOrder: for all prefixes it returns true and leaves memory alone. No condition.
-/
import Derived.Test.YtgmknnmcanbfeaaAddrCommon
namespace Go.Proofs.Ytgmknnmcanbfeaa
open Go.RowKit
set_option linter.unusedVariables false
set_option linter.unusedSimpArgs false
set_option maxRecDepth 100000
attribute [local go_sem high] eq_ad eq_pf

/-- One prefix is ahead of another one. -/
def Pf.lt (p q : Pf) : Prop := p.1.1 < q.1.1 ∨ p.1.1 = q.1.1 ∧ (p.1.2 < q.1.2 ∨ p.1.2 = q.1.2 ∧ p.2 < q.2)
instance (p q : Pf) : Decidable (p.lt q) := by unfold Pf.lt; infer_instance
theorem cmp_lt (p q : Pf) : p.cmp q < 0 ↔ p.lt q := by
  unfold Pf.cmp or3 cmpI Pf.lt
  split
  · split <;> (try split) <;> omega
  · split
    · split <;> (try split) <;> omega
    · split <;> (try split) <;> omega
theorem pf_lt_irrefl (p : Pf) : ¬ p.lt p := by unfold Pf.lt; omega
theorem pf_lt_trans {p q r : Pf} (h : p.lt q) (k : q.lt r) : p.lt r := by unfold Pf.lt at *; omega
theorem pf_lt_total {p q : Pf} (h : p ≠ q) : p.lt q ∨ q.lt p := by
  have : p.1.1 ≠ q.1.1 ∨ p.1.2 ≠ q.1.2 ∨ p.2 ≠ q.2 := by
    rcases Nat.lt_trichotomy p.1.1 q.1.1 with h1 | h1 | h1
    · omega
    · rcases Nat.lt_trichotomy p.1.2 q.1.2 with h2 | h2 | h2
      · omega
      · right; right; intro h3; exact h (Prod.ext (Prod.ext h1 h2) h3)
      · omega
    · omega
  unfold Pf.lt; omega
theorem pf_lt_asymm {p q : Pf} (h : p.lt q) : ¬ q.lt p := by unfold Pf.lt at *; omega
/-- A prefix is ahead of the longer ones that it has. -/
theorem pf_has_lt {p q : Pf} (h : p.has q.1) (hl : p.2 < q.2) : p.lt q := by
  obtain ⟨_, h2⟩ := h
  have e1 : p.1.1 = cutW q.1.1 (min p.2.toNat 64) := by rw [← h2]; rfl
  have e2 : p.1.2 = cutW q.1.2 (p.2.toNat - 64) := by rw [← h2]; rfl
  have l1 := cutW_le q.1.1 (min p.2.toNat 64)
  have l2 := cutW_le q.1.2 (p.2.toNat - 64)
  unfold Pf.lt; omega
theorem pf_beq (p q : Pf) : ((((p.1.1 : Nat) : Int) == (q.1.1 : Int) && (((p.1.2 : Nat) : Int) == (q.1.2 : Int))) && (p.2 == q.2)) = decide (p = q) := by
  rw [Bool.eq_iff_iff]; simp [Prod.ext_iff]; omega


set_option maxHeartbeats 1000000 in
theorem addrOrder_walk (W : World) (p : Pf) (hp : p.1.ok) (q : Pf) (hq : q.1.ok) (r : Pf) (hr : r.1.ok) :
    Calls Try.prog 6 #[.agg #[.int .u64 (p.1.1 : Int), .int .u64 (p.1.2 : Int), .int .i64 p.2], .agg #[.int .u64 (q.1.1 : Int), .int .u64 (q.1.2 : Int), .int .i64 q.2], .agg #[.int .u64 (r.1.1 : Int), .int .u64 (r.1.2 : Int), .int .i64 r.2]] W fun e W' => e = .returned (.bool true) ∧ Below W.heap.size W W' := by
  have hg := guard_ad
  have hg2 := guard_pf
  obtain ⟨b1, hb1⟩ : ∃ b : Bool, b = decide (p.lt q) := ⟨_, rfl⟩
  obtain ⟨b2, hb2⟩ : ∃ b : Bool, b = decide (q.lt p) := ⟨_, rfl⟩
  obtain ⟨b3, hb3⟩ : ∃ b : Bool, b = decide (q.lt r) := ⟨_, rfl⟩
  obtain ⟨b4, hb4⟩ : ∃ b : Bool, b = decide (p.lt r) := ⟨_, rfl⟩
  obtain ⟨b5, hb5⟩ : ∃ b : Bool, b = decide (p.has q.1) := ⟨_, rfl⟩
  obtain ⟨b6, hb6⟩ : ∃ b : Bool, b = decide (q.right) := ⟨_, rfl⟩
  have c0 := hid fun w => addr_less p p false (by simp [cmp_lt, pf_lt_irrefl]) w
  have c1 := hid fun w => addr_less p q b1 (by simp [cmp_lt, hb1]) w
  have c2 := hid fun w => addr_less q p b2 (by simp [cmp_lt, hb2]) w
  have c3 := hid fun w => addr_less q r b3 (by simp [cmp_lt, hb3]) w
  have c4 := hid fun w => addr_less p r b4 (by simp [cmp_lt, hb4]) w
  have c5 := hid fun w => addr_has p.1 q.1 hp hq p.2 b5 hb5 w
  have c6 := hid fun w => addr_right q.1 hq q.2 b6 hb6 w
  have hcase : (p = q ∧ b1 = false) ∨ (p ≠ q ∧ b1 = false ∧ b2 = true) ∨ (p ≠ q ∧ b1 = true ∧ b2 = false ∧ b3 = false) ∨ (p ≠ q ∧ b1 = true ∧ b2 = false ∧ b3 = true ∧ b4 = true) := by
    by_cases e : p = q
    · left; exact ⟨e, by rw [hb1, e]; simp [pf_lt_irrefl]⟩
    · rcases pf_lt_total e with h | h
      · have h' := pf_lt_asymm h
        by_cases h3 : q.lt r
        · have := pf_lt_trans h h3
          simp [hb1, hb2, hb3, hb4, h, h', h3, this, e]
        · simp [hb1, hb2, hb3, h, h', h3, e]
      · have h' := pf_lt_asymm h
        simp [hb1, hb2, h, h', e]
  have hcase2 : b5 = false ∨ b5 = true ∧ ¬ p.2 < q.2 ∨ b5 = true ∧ p.2 < q.2 ∧ b6 = false ∨ b5 = true ∧ p.2 < q.2 ∧ b6 = true ∧ b1 = true := by
    by_cases h5 : p.has q.1
    · by_cases hl : p.2 < q.2
      · have := pf_has_lt h5 hl
        rw [hb5, hb6, hb1]
        by_cases h6 : q.right <;> simp [h5, h6, hl, this]
      · right; left; simp [hb5, h5, hl]
    · left; simp [hb5, h5]
  have hne := pf_beq p q
  have C1 := hid hcase
  have C2 := hid hcase2
  clear hcase hcase2 hb1 hb2 hb3 hb4 hb5 hb6
  obtain ⟨⟨a, b⟩, n⟩ := p
  obtain ⟨⟨c, d⟩, m⟩ := q
  obtain ⟨⟨e, f⟩, l⟩ := r
  have HN := hid hne
  clear hne
  go_enter Try.func6, Try.ntmps6
  go_wp2_with fail
  refine (addr_alive _).mono ?_
  rintro _ w1 ⟨rfl, hb1⟩
  have B1 := hid ((((Blk.new_at W #[.int .u64 (a : Int), .int .u64 (b : Int), .int .i64 n] 32 W.heap.size rfl).alloc (.cells #[.int .u64 (c : Int), .int .u64 (d : Int), .int .i64 m] 32)).alloc (.cells #[.int .u64 (e : Int), .int .u64 (f : Int), .int .i64 l] 32)).below' hb1)
  have B2 := hid (((Blk.new_at (W.alloc (.cells #[.int .u64 (a : Int), .int .u64 (b : Int), .int .i64 n] 32)) #[.int .u64 (c : Int), .int .u64 (d : Int), .int .i64 m] 32 (W.heap.size + 1) (by simp)).alloc (.cells #[.int .u64 (e : Int), .int .u64 (f : Int), .int .i64 l] 32)).below' hb1)
  have B3 := hid ((Blk.new_at ((W.alloc (.cells #[.int .u64 (a : Int), .int .u64 (b : Int), .int .i64 n] 32)).alloc (.cells #[.int .u64 (c : Int), .int .u64 (d : Int), .int .i64 m] 32)) #[.int .u64 (e : Int), .int .u64 (f : Int), .int .i64 l] 32 (W.heap.size + 2) (by simp)).below' hb1)
  have hB : Below W.heap.size W w1 := Below.trans (b := _) ((((Below.refl _ _).alloc (Nat.le_refl _) _).alloc (by simp) _).alloc (by simp; omega) _) (hb1.mono (by simp; omega))
  have HB := hid hB
  clear hB hb1
  go_upto_region 2 with fail
  go_cut [45] (fun s wc => s = .bool false ∧ Below w1.heap.size w1 wc)
  case first =>
    rcases C1.out with ⟨hpq, rfl⟩ | ⟨hpq, rfl, rfl⟩ | ⟨hpq, rfl, rfl, rfl⟩ | ⟨hpq, rfl, rfl, rfl, rfl⟩
    all_goals
      have hD := HN.out
      rw [show decide _ = _ from by first | exact decide_eq_true hpq | exact decide_eq_false hpq] at hD
      clear hpq
      refine wp_region_later (fun w' => w'.cell? ⟨W.heap.size, 0, none⟩ = some (.int .u64 (a : Int)) ∧ w'.cell? ⟨W.heap.size, 1, none⟩ = some (.int .u64 (b : Int)) ∧ w'.cell? ⟨W.heap.size, 2, none⟩ = some (.int .i64 n) ∧ w'.cell? ⟨W.heap.size + 1, 0, none⟩ = some (.int .u64 (c : Int)) ∧ w'.cell? ⟨W.heap.size + 1, 1, none⟩ = some (.int .u64 (d : Int)) ∧ w'.cell? ⟨W.heap.size + 1, 2, none⟩ = some (.int .i64 m) ∧ w'.cell? ⟨W.heap.size + 2, 0, none⟩ = some (.int .u64 (e : Int)) ∧ w'.cell? ⟨W.heap.size + 2, 1, none⟩ = some (.int .u64 (f : Int)) ∧ w'.cell? ⟨W.heap.size + 2, 2, none⟩ = some (.int .i64 l))
        (fun x => ⟨x.cell (B1.out.cellv rfl), x.cell (B1.out.cellv rfl), x.cell (B1.out.cellv rfl), x.cell (B2.out.cellv rfl), x.cell (B2.out.cellv rfl), x.cell (B2.out.cellv rfl), x.cell (B3.out.cellv rfl), x.cell (B3.out.cellv rfl), x.cell (B3.out.cellv rfl)⟩) (by kernel_rfl) (by kernel_rfl) (fun HS => ?_)
      repeat (go_big_quiet_step (first
        | (with_reducible exact Later.calls _ (c0.out _))
        | (with_reducible exact Later.calls _ (c1.out _))
        | (with_reducible exact Later.calls _ (c2.out _))
        | (with_reducible exact Later.calls _ (c3.out _))
        | (with_reducible exact Later.calls _ (c4.out _))))
      refine wpQuiet_nil ?_
      rintro _ ⟨⟨w3, hb3⟩, rfl⟩
      go_wp2_with fail
      go_meet
      exact ⟨rfl, hb3⟩
  case rest =>
    obtain ⟨rfl, hbc⟩ := hcut
    have B1c := hid (B1.out.below' hbc)
    have B2c := hid (B2.out.below' hbc)
    have B3c := hid (B3.out.below' hbc)
    have HBc := hid (held_next HB.out hbc)
    clear B1 B2 B3 HB hbc hg hg2 HN C1
    have s0 := B1c.out.cellv (i := 0) rfl
    have s1 := B1c.out.cellv (i := 1) rfl
    have s2 := B1c.out.cellv (i := 2) rfl
    have t0 := B2c.out.cellv (i := 0) rfl
    have t1 := B2c.out.cellv (i := 1) rfl
    have t2 := B2c.out.cellv (i := 2) rfl
    rcases C2.out with rfl | ⟨rfl, hl⟩ | ⟨rfl, hl, rfl⟩ | ⟨rfl, hl, rfl, rfl⟩
    all_goals
      clear C2
      go_wp2_with fail
      refine (c5.out _).mono ?_
      rintro _ w3 ⟨rfl, hb3⟩
      have B1d := hid (B1c.out.below' hb3)
      have B2d := hid (B2c.out.below' hb3)
      have HBd := hid (held_next HBc.out hb3)
      clear B1c B2c HBc hb3 s0 s1 s2 t0 t1 t2
      have s0 := B1d.out.cellv (i := 0) rfl
      have s1 := B1d.out.cellv (i := 1) rfl
      have s2 := B1d.out.cellv (i := 2) rfl
      have t0 := B2d.out.cellv (i := 0) rfl
      have t1 := B2d.out.cellv (i := 1) rfl
      have t2 := B2d.out.cellv (i := 2) rfl
      go_wp2_with fail
    · go_ret
      exact ⟨rfl, HBd.out⟩
    · go_ret
      exact ⟨rfl, HBd.out⟩
    · refine (c6.out _).mono ?_
      rintro _ w4 ⟨rfl, hb4⟩
      go_wp2_with fail
      go_ret
      exact ⟨rfl, held_next HBd.out hb4⟩
    · refine (c6.out _).mono ?_
      rintro _ w4 ⟨rfl, hb4⟩
      have B1e := hid (B1d.out.below' hb4)
      have B2e := hid (B2d.out.below' hb4)
      have HBe := hid (held_next HBd.out hb4)
      clear B1d B2d HBd hb4 s0 s1 s2 t0 t1 t2
      have s0 := B1e.out.cellv (i := 0) rfl
      have s1 := B1e.out.cellv (i := 1) rfl
      have s2 := B1e.out.cellv (i := 2) rfl
      have t0 := B2e.out.cellv (i := 0) rfl
      have t1 := B2e.out.cellv (i := 1) rfl
      have t2 := B2e.out.cellv (i := 2) rfl
      go_wp2_with fail
      refine (c1.out _).mono ?_
      rintro _ w5 ⟨rfl, hb5⟩
      go_wp2_with fail
      go_ret
      exact ⟨rfl, held_next HBe.out hb5⟩

end Go.Proofs.Ytgmknnmcanbfeaa
