/-
  The walk of the law AddrTells: for all inputs it returns true and leaves memory alone. No condition.
-/
import Derived.Test.YtgmknnmcanbfeaaRefAddr
import Derived.Test.YtgmknnmcanbfeaaAddrCommon
namespace Go.Proofs.Ytgmknnmcanbfeaa
open Go.RowKit
set_option linter.unusedVariables false
set_option linter.unusedSimpArgs false
set_option maxRecDepth 100000
attribute [local go_sem high] eq_ad eq_pf

set_option maxHeartbeats 1000000 in
theorem addrTells_walk (W : World) (t : Ad) (ht : t.ok) (i : Int) (wi : (Lit.int .i64 i).wf = true) (n : Int) (wn : (Lit.int .i64 n).wf = true) (p : Pf) (hp : p.1.ok) (q : Pf) (hq : q.1.ok) :
    Calls Try.prog 5 #[.agg #[.int .u64 (t.1 : Int), .int .u64 (t.2 : Int)], .int .i64 i, .int .i64 n, .agg #[.int .u64 (p.1.1 : Int), .int .u64 (p.1.2 : Int), .int .i64 p.2], .agg #[.int .u64 (q.1.1 : Int), .int .u64 (q.1.2 : Int), .int .i64 q.2]] W fun e W' => e = .returned (.bool true) ∧ Below W.heap.size W W' := by
  have hg := guard_ad
  have a1 := hid fun w => addr_bit t ht i w
  have a2 := hid fun w => ref_bit t ht i w
  have a3 := hid fun w => addr_cut t ht n w
  have a4 := hid fun w => ref_cut t ht n w
  have a5 := hid fun w => addr_right p.1 hp p.2 _ rfl w
  have a6 := hid fun w => ref_right p.1 hp p.2 _ rfl w
  have a7 := hid fun w => addr_has p.1 t hp ht p.2 _ rfl w
  have a8 := hid fun w => ref_has p.1 t hp ht p.2 _ rfl w
  have a9 := hid fun w => addr_common t p.1 ht hp w
  have a10 := hid fun w => ref_common t p.1 ht hp w
  have a11 := hid fun w => addr_less p q (decide (p.lt q)) (by simp [cmp_lt]) w
  have a12 := hid fun w => ref_less p q _ rfl w
  generalize (if 0 ≤ i then (t.bit i.toNat : Int) else 0) = r1 at a1 a2
  generalize t.cut (capL n) = r3 at a3 a4
  generalize decide (Pf.right (p.1, p.2)) = r5 at a5 a6
  generalize decide (Pf.has (p.1, p.2) t) = r7 at a7 a8
  generalize t.com p.1 = r9 at a9 a10
  generalize decide (p.lt q) = r11 at a11 a12
  obtain ⟨x, y⟩ := t
  obtain ⟨⟨a, b⟩, n1⟩ := p
  obtain ⟨⟨c, d⟩, m1⟩ := q
  go_enter Try.func5, Try.ntmps5
  go_wp2_with fail
  refine (addr_alive _).mono ?_
  rintro _ w1 ⟨rfl, hb1⟩
  have B1 := hid ((((Blk.new_at W #[.int .u64 (x : Int), .int .u64 (y : Int)] 24 W.heap.size rfl).alloc (.cells #[.int .u64 (a : Int), .int .u64 (b : Int), .int .i64 n1] 32)).alloc (.cells #[.int .u64 (c : Int), .int .u64 (d : Int), .int .i64 m1] 32)).below' hb1)
  have B2 := hid (((Blk.new_at (W.alloc (.cells #[.int .u64 (x : Int), .int .u64 (y : Int)] 24)) #[.int .u64 (a : Int), .int .u64 (b : Int), .int .i64 n1] 32 (W.heap.size + 1) (by simp)).alloc (.cells #[.int .u64 (c : Int), .int .u64 (d : Int), .int .i64 m1] 32)).below' hb1)
  have B3 := hid ((Blk.new_at ((W.alloc (.cells #[.int .u64 (x : Int), .int .u64 (y : Int)] 24)).alloc (.cells #[.int .u64 (a : Int), .int .u64 (b : Int), .int .i64 n1] 32)) #[.int .u64 (c : Int), .int .u64 (d : Int), .int .i64 m1] 32 (W.heap.size + 1 + 1) (by simp)).below' hb1)
  have hB : Below W.heap.size W w1 := Below.trans (b := _) ((((Below.refl _ _).alloc (Nat.le_refl _) _).alloc (by simp) _).alloc (by simp; omega) _) (hb1.mono (by simp; omega))
  have HB := hid hB
  clear hB hb1
  go_wp2_with fail
  refine wp_region_later (fun w' => w'.cell? ⟨W.heap.size, 0, none⟩ = some (.int .u64 (x : Int)) ∧ w'.cell? ⟨W.heap.size, 1, none⟩ = some (.int .u64 (y : Int)) ∧ w'.cell? ⟨W.heap.size + 1, 0, none⟩ = some (.int .u64 (a : Int)) ∧ w'.cell? ⟨W.heap.size + 1, 1, none⟩ = some (.int .u64 (b : Int)) ∧ w'.cell? ⟨W.heap.size + 1, 2, none⟩ = some (.int .i64 n1) ∧ w'.cell? ⟨W.heap.size + 1 + 1, 0, none⟩ = some (.int .u64 (c : Int)) ∧ w'.cell? ⟨W.heap.size + 1 + 1, 1, none⟩ = some (.int .u64 (d : Int)) ∧ w'.cell? ⟨W.heap.size + 1 + 1, 2, none⟩ = some (.int .i64 m1))
    (fun z => ⟨z.cell (B1.out.cellv rfl), z.cell (B1.out.cellv rfl), z.cell (B2.out.cellv rfl), z.cell (B2.out.cellv rfl), z.cell (B2.out.cellv rfl), z.cell (B3.out.cellv rfl), z.cell (B3.out.cellv rfl), z.cell (B3.out.cellv rfl)⟩) (by kernel_rfl) (by kernel_rfl) (fun HS => ?_)
  repeat (go_big_quiet_step (first
    | (with_reducible exact Later.calls _ (a1.out _))
    | (with_reducible exact Later.calls _ (a2.out _))
    | (with_reducible exact Later.calls _ (a3.out _))
    | (with_reducible exact Later.calls _ (a4.out _))
    | (with_reducible exact Later.calls _ (a5.out _))
    | (with_reducible exact Later.calls _ (a6.out _))
    | (with_reducible exact Later.calls _ (a7.out _))
    | (with_reducible exact Later.calls _ (a8.out _))
    | (with_reducible exact Later.calls _ (a9.out _))
    | (with_reducible exact Later.calls _ (a10.out _))
    | (with_reducible exact Later.calls _ (a11.out _))
    | (with_reducible exact Later.calls _ (a12.out _))))
  refine wpQuiet_nil ?_
  rintro w3 ⟨⟨_, hb3⟩, rfl⟩
  go_wp2_with fail
  go_ret
  exact ⟨rfl, held_next HB.out hb3⟩

end Go.Proofs.Ytgmknnmcanbfeaa
