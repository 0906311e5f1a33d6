/-
  The walk of the law AddrCommon, and of the example of package addr: for all addresses it returns true and leaves memory alone. No condition.
-/
import Derived.Test.YtgmknnmcanbfeaaAddr
namespace Go.Proofs.Ytgmknnmcanbfeaa
open Go.RowKit
set_option linter.unusedVariables false
set_option linter.unusedSimpArgs false
set_option maxRecDepth 100000
attribute [local go_sem high] eq_ad eq_pf

theorem com_self (a : Ad) : a.com a = 128 := Ad.com_eq ⟨Nat.le_refl _, fun _ _ => rfl, fun h => by omega⟩

theorem addr_alive (w : World) : Calls Try.prog 15 #[] w fun e w' => e = .returned (.bool true) ∧ Below w.heap.size w w' := by
  have ok0 : Ad.ok (0, 0) := ⟨by decide, by decide⟩
  have ok1 : Ad.ok (9223372036854775808, 0) := ⟨by decide, by decide⟩
  have h1 := fun w => addr_bitN (9223372036854775808, 0) ok1 0 1 (by decide) w
  have h2 := fun w => addr_right (0, 0) ok0 0 true (by decide) w
  have h3 := fun w => addr_commonN (0, 0) (0, 0) ok0 ok0 128 (by rw [com_self]; rfl) w
  have H1 := hid h1
  have H2 := hid h2
  have H3 := hid h3
  clear h1 h2 h3 ok0 ok1
  go_enter Try.func15, Try.ntmps15
  go_wp2_with fail
  refine (H1.out _).mono ?_
  rintro e w1 ⟨rfl, hb1⟩
  go_wp2_with fail
  refine (H2.out _).mono ?_
  rintro e w2 ⟨rfl, hb2⟩
  go_wp2_with fail
  refine (H3.out _).mono ?_
  rintro e w3 ⟨rfl, hb3⟩
  go_wp2_with fail
  go_ret
  exact ⟨rfl, held_next (held_next hb1 hb2) hb3⟩

theorem addrCommon_walk (W : World) (a : Ad) (ha : a.ok) (b : Ad) (hb : b.ok) :
    Calls Try.prog 3 #[.agg #[.int .u64 (a.1 : Int), .int .u64 (a.2 : Int)], .agg #[.int .u64 (b.1 : Int), .int .u64 (b.2 : Int)]] W fun e W' => e = .returned (.bool true) ∧ Below W.heap.size W W' := by
  obtain ⟨N, hN⟩ : ∃ N, N = a.com b := ⟨_, rfl⟩
  have hI : IsCom a b N := hN ▸ Ad.com_is a b
  have hg := guard_ad
  have hN128 := hI.1
  have c1 := hid fun w => addr_commonN a b ha hb N (by rw [hN]) w
  have c2 := hid fun w => addr_commonN b a hb ha N (by rw [Ad.com_eq hI.symm]) w
  have c3 := hid fun w => addr_cutN a ha N hI.1 (b.cut N) ((Ad.cut_eq ha hb N hI.1).2 hI.2.1) w
  have c4 := hid fun w => addr_cutN b hb N hI.1 (b.cut N) rfl w
  have c5 := hid fun w => addr_bitN a ha N _ rfl w
  have c6 := hid fun w => addr_bitN b hb N _ rfl w
  have hbit : N < 128 → ((a.bit N : Int) != (b.bit N : Int)) = true := fun h => by rw [bne_iff_ne]; have := hI.2.2 h; omega
  have hne : N < 128 → (((a.1 : Int) == (b.1 : Int)) && ((a.2 : Int) == (b.2 : Int))) = false := fun h => by
    rw [ad_beq]; exact decide_eq_false fun e => hI.2.2 h (by rw [e])
  have heq : N = 128 → a = b := fun h => Ad.ext_bits ha hb (fun i hi => hI.2.1 i (by omega))
  clear hI hN
  by_cases h : N < 128
  · have h1 := hbit h
    have h2 := hne h
    have h3 : ((N : Int) == 128) = false := beq_eq_false_iff_ne.2 (by omega)
    clear hbit hne heq
    obtain ⟨x, y⟩ := a
    obtain ⟨z, t⟩ := b
    generalize Ad.bit (x, y) N = p at c5 h1
    generalize Ad.bit (z, t) N = q at c6 h1
    generalize Ad.cut (z, t) N = r at c3 c4
    go_enter Try.func3, Try.ntmps3
    go_wp2_with fail
    refine (addr_alive _).mono ?_
    rintro e w1 ⟨rfl, hb1⟩
    have BA := hid (((Blk.new_at W #[.int .u64 (x : Int), .int .u64 (y : Int)] 24 W.heap.size rfl).alloc (.cells #[.int .u64 (z : Int), .int .u64 (t : Int)] 24)).below' hb1)
    have BB := hid ((Blk.new_at (W.alloc (.cells #[.int .u64 (x : Int), .int .u64 (y : Int)] 24)) #[.int .u64 (z : Int), .int .u64 (t : Int)] 24 (W.heap.size + 1) (by simp)).below' hb1)
    have hB : Below W.heap.size W w1 := Below.trans (b := _) (((Below.refl _ _).alloc (Nat.le_refl _) _).alloc (by simp) _) (hb1.mono (by simp; omega))
    have HB := hid hB
    clear hB hb1
    have s0 := BA.out.cellv (i := 0) rfl
    have s1 := BA.out.cellv (i := 1) rfl
    have s2 := BB.out.cellv (i := 0) rfl
    have s3 := BB.out.cellv (i := 1) rfl
    go_wp2_with fail
    refine (c1.out _).mono ?_
    rintro e w2 ⟨rfl, hb2⟩
    have BA2 := hid (BA.out.below' hb2)
    have BB2 := hid (BB.out.below' hb2)
    have HB2 := hid (held_next HB.out hb2)
    clear BA BB HB s0 s1 s2 s3 hb2
    go_wp2_with fail
    refine wp_region_later (fun w' => w'.cell? ⟨W.heap.size, 0, none⟩ = some (.int .u64 (x : Int)) ∧ w'.cell? ⟨W.heap.size, 1, none⟩ = some (.int .u64 (y : Int)) ∧ w'.cell? ⟨W.heap.size + 1, 0, none⟩ = some (.int .u64 (z : Int)) ∧ w'.cell? ⟨W.heap.size + 1, 1, none⟩ = some (.int .u64 (t : Int)))
      (fun x => ⟨x.cell (BA2.out.cellv rfl), x.cell (BA2.out.cellv rfl), x.cell (BB2.out.cellv rfl), x.cell (BB2.out.cellv rfl)⟩) (by kernel_rfl) (by kernel_rfl) (fun HS => ?_)
    repeat (go_big_quiet_step (first
      | (with_reducible exact Later.calls _ (c3.out _))
      | (with_reducible exact Later.calls _ (c4.out _))
      | (with_reducible exact Later.calls _ (c5.out _))
      | (with_reducible exact Later.calls _ (c6.out _))
      | (with_reducible exact Later.calls _ (c2.out _))))
    refine wpQuiet_nil ?_
    rintro _ ⟨⟨w3, hb3⟩, rfl⟩
    go_wp2
    go_ret
    exact ⟨rfl, held_next HB2.out hb3⟩
  · obtain rfl : N = 128 := by omega
    obtain rfl := heq rfl
    have d1 := hid fun w => addr_commonN a a ha ha 128 (by rw [com_self]; rfl) w
    have d3 := hid (show ∀ w, Calls Try.prog 17 #[.agg #[.int .u64 (a.1 : Int), .int .u64 (a.2 : Int)], .int .i64 128] w fun e w' => e = .returned (.agg #[.int .u64 ((a.cut 128).1 : Int), .int .u64 ((a.cut 128).2 : Int)]) ∧ Below w.heap.size w w' from fun w => addr_cutN a ha 128 (by omega) (a.cut 128) rfl w)
    clear hbit hne heq h c1 c2 c3 c4 c5 c6 hN128
    obtain ⟨x, y⟩ := a
    generalize Ad.cut (x, y) 128 = r at d3
    go_enter Try.func3, Try.ntmps3
    go_wp2_with fail
    refine (addr_alive _).mono ?_
    rintro e w1 ⟨rfl, hb1⟩
    have BA := hid (((Blk.new_at W #[.int .u64 (x : Int), .int .u64 (y : Int)] 24 W.heap.size rfl).alloc (.cells #[.int .u64 (x : Int), .int .u64 (y : Int)] 24)).below' hb1)
    have BB := hid ((Blk.new_at (W.alloc (.cells #[.int .u64 (x : Int), .int .u64 (y : Int)] 24)) #[.int .u64 (x : Int), .int .u64 (y : Int)] 24 (W.heap.size + 1) (by simp)).below' hb1)
    have hB : Below W.heap.size W w1 := Below.trans (b := _) (((Below.refl _ _).alloc (Nat.le_refl _) _).alloc (by simp) _) (hb1.mono (by simp; omega))
    have HB := hid hB
    clear hB hb1
    have s0 := BA.out.cellv (i := 0) rfl
    have s1 := BA.out.cellv (i := 1) rfl
    have s2 := BB.out.cellv (i := 0) rfl
    have s3 := BB.out.cellv (i := 1) rfl
    go_wp2_with fail
    refine (d1.out _).mono ?_
    rintro e w2 ⟨rfl, hb2⟩
    have BA2 := hid (BA.out.below' hb2)
    have BB2 := hid (BB.out.below' hb2)
    have HB2 := hid (held_next HB.out hb2)
    clear BA BB HB s0 s1 s2 s3 hb2
    go_wp2_with fail
    refine wp_region_later (fun w' => w'.cell? ⟨W.heap.size, 0, none⟩ = some (.int .u64 (x : Int)) ∧ w'.cell? ⟨W.heap.size, 1, none⟩ = some (.int .u64 (y : Int)) ∧ w'.cell? ⟨W.heap.size + 1, 0, none⟩ = some (.int .u64 (x : Int)) ∧ w'.cell? ⟨W.heap.size + 1, 1, none⟩ = some (.int .u64 (y : Int)))
      (fun x => ⟨x.cell (BA2.out.cellv rfl), x.cell (BA2.out.cellv rfl), x.cell (BB2.out.cellv rfl), x.cell (BB2.out.cellv rfl)⟩) (by kernel_rfl) (by kernel_rfl) (fun HS => ?_)
    repeat (go_big_quiet_step (first
      | (with_reducible exact Later.calls _ (d3.out _))
      | (with_reducible exact Later.calls _ (d1.out _))))
    refine wpQuiet_nil ?_
    rintro _ ⟨⟨w3, hb3⟩, rfl⟩
    go_wp2
    go_ret
    exact ⟨rfl, held_next HB2.out hb3⟩

end Go.Proofs.Ytgmknnmcanbfeaa
