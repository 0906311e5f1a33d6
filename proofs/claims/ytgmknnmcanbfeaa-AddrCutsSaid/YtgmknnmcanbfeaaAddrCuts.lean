/-
  The walk of the law AddrCuts: for all addresses and numbers it returns true and leaves memory alone. No condition.
-/
import Derived.Test.YtgmknnmcanbfeaaAddrCommon
namespace Go.Proofs.Ytgmknnmcanbfeaa
open Go.RowKit
set_option linter.unusedVariables false
set_option linter.unusedSimpArgs false
set_option maxRecDepth 100000
attribute [local go_sem high] eq_ad eq_pf

theorem addrCuts_out (W : World) (a : Ad) (n m i : Int) (h : ¬ (0 ≤ n ∧ n ≤ 128 ∧ 0 ≤ m ∧ m ≤ 128 ∧ 0 ≤ i ∧ i ≤ 127)) :
    Calls Try.prog 4 #[.agg #[.int .u64 (a.1 : Int), .int .u64 (a.2 : Int)], .int .i64 n, .int .i64 m, .int .i64 i] W fun e W' => e = .returned (.bool true) ∧ Below W.heap.size W W' := by
  obtain ⟨x, y⟩ := a
  go_enter Try.func4, Try.ntmps4
  go_wp2_with fail
  refine (addr_alive _).mono ?_
  rintro e w1 ⟨rfl, hb⟩
  have hb' : Below W.heap.size W w1 := Below.trans (b := _) ((Below.refl _ _).alloc (Nat.le_refl _) _) (hb.mono (by simp))
  clear hb
  go_wp2_with fail
  all_goals (go_ret; exact ⟨rfl, hb'⟩)

theorem addrCuts_in (W : World) (a : Ad) (ha : a.ok) (n m i : Nat) (hn : n ≤ 128) (hm : m ≤ 128) (hi : i ≤ 127) :
    Calls Try.prog 4 #[.agg #[.int .u64 (a.1 : Int), .int .u64 (a.2 : Int)], .int .i64 n, .int .i64 m, .int .i64 i] W fun e W' => e = .returned (.bool true) ∧ Below W.heap.size W W' := by
  obtain ⟨r, hr⟩ : ∃ r, a.cut n = r := ⟨_, rfl⟩
  have hro : r.ok := hr ▸ Ad.cut_ok ha n
  obtain ⟨s, hs⟩ : ∃ s, a.cut (min n m) = s := ⟨_, rfl⟩
  have hrs : r.cut m = s := by rw [← hr, Ad.cut_cut ha n m hn hm, hs]
  have hrr : r.cut n = r := by rw [← hr, Ad.cut_cut ha n n hn hn, Nat.min_self]
  have hbit : r.bit i = if i < n then a.bit i else 0 := by rw [← hr, Ad.bit_cut ha n i hn (by omega)]
  have hk : ∀ k, k < n → r.bit k = a.bit k := fun k hk => by rw [← hr, Ad.bit_cut ha n k hn (by omega), if_pos hk]
  have hcom : n ≤ r.com a := by
    have hI := Ad.com_is r a
    rcases Nat.lt_or_ge (r.com a) n with h | h
    · exact absurd (hk _ h) (hI.2.2 (by omega))
    · exact h
  have c1 := hid fun w => addr_cutN a ha n hn r hr w
  have c2 := hid fun w => addr_cutN r hro m hm s hrs w
  obtain ⟨L, hL⟩ : ∃ L : Nat, m < n ∧ L = m ∨ ¬ m < n ∧ L = n := ⟨min n m, by omega⟩
  have c3 := hid fun w => addr_cutN a ha L (by omega) s (by rw [← hs]; congr 1; omega) w
  have c4 := hid fun w => addr_right r hro n true (by simp [Pf.right, hrr]; omega) w
  have c5 := hid fun w => addr_has r a hro ha n true (by simp [Pf.has, Pf.right, hrr, hr]; omega) w
  have c6 := hid fun w => addr_bitN a ha i _ rfl w
  obtain ⟨Q, hQ⟩ : ∃ Q : Int, n ≤ i ∧ Q = 0 ∨ ¬ n ≤ i ∧ Q = (a.bit i : Int) := by
    by_cases h : n ≤ i
    · exact ⟨0, .inl ⟨h, rfl⟩⟩
    · exact ⟨_, .inr ⟨h, rfl⟩⟩
  have c7 := hid fun w => addr_bitN r hro i Q (by rw [hbit]; split <;> omega) w
  have c8 := hid fun w => addr_commonN r a hro ha _ rfl w
  have hg := guard_ad
  have hcom' : (n : Int) ≤ (r.com a : Int) := by omega
  generalize r.com a = q at c8 hcom'
  generalize a.bit i = p at c6 hbit hQ
  clear hk hbit hcom hrr hrs hs hr hro
  obtain ⟨x, y⟩ := a
  go_enter Try.func4, Try.ntmps4
  go_wp2_with fail
  refine (addr_alive _).mono ?_
  rintro e w1 ⟨rfl, hb1⟩
  have BA := hid ((Blk.new_at W #[.int .u64 (x : Int), .int .u64 (y : Int)] 24 W.heap.size rfl).below' hb1)
  have hL := Blk.lt BA.out
  have hB : Below W.heap.size W w1 := Below.trans (b := _) ((Below.refl _ _).alloc (Nat.le_refl _) _) (hb1.mono (by simp))
  have HB := hid hB
  clear hB hb1
  have s0 := BA.out.cellv (i := 0) rfl
  have s1 := BA.out.cellv (i := 1) rfl
  go_wp2_with fail
  refine (c1.out _).mono ?_
  rintro e w2 ⟨rfl, hb2⟩
  have BA2 := hid (BA.out.below' hb2)
  have HB2 := hid (held_next HB.out hb2)
  clear BA HB s0 s1 hb2 hL
  have BA3 := hid (BA2.out.alloc (.cells #[.int .u64 (r.1 : Int), .int .u64 (r.2 : Int)] 24))
  have BX3 := hid (Blk.new_at w2 #[.int .u64 (r.1 : Int), .int .u64 (r.2 : Int)] 24 w2.heap.size rfl)
  have s0 := BA3.out.cellv (i := 0) rfl
  have s1 := BA3.out.cellv (i := 1) rfl
  have hlt : W.heap.size < w2.heap.size := BA2.out.lt
  rcases hL with ⟨hmn, rfl⟩ | ⟨hmn, rfl⟩ <;> rcases hQ with ⟨hin, rfl⟩ | ⟨hin, rfl⟩
  all_goals
    go_wp2_with fail
    refine (c6.out _).mono ?_
    rintro e w3 ⟨rfl, hb3⟩
    have BA4 := hid (BA3.out.below' hb3)
    have BX4 := hid (BX3.out.below' hb3)
    have HB3 := hid (held_next (HB2.out.alloc HB2.out.size _) hb3)
    clear BA3 BX3 s0 s1 hb3 BA2 HB2
    go_wp2_with fail
    refine wp_region_later (fun w' => w'.cell? ⟨W.heap.size, 0, none⟩ = some (.int .u64 (x : Int)) ∧ w'.cell? ⟨W.heap.size, 1, none⟩ = some (.int .u64 (y : Int)) ∧ w'.cell? ⟨w2.heap.size, 0, none⟩ = some (.int .u64 (r.1 : Int)) ∧ w'.cell? ⟨w2.heap.size, 1, none⟩ = some (.int .u64 (r.2 : Int)))
      (fun x => ⟨x.cell (BA4.out.cellv rfl), x.cell (BA4.out.cellv rfl), x.cell (BX4.out.cellv rfl), x.cell (BX4.out.cellv rfl)⟩) (by kernel_rfl) (by kernel_rfl) (fun HS => ?_)
    repeat (go_big_quiet_step (first
      | (with_reducible exact Later.calls _ (c2.out _))
      | (with_reducible exact Later.calls _ (c3.out _))
      | (with_reducible exact Later.calls _ (c4.out _))
      | (with_reducible exact Later.calls _ (c5.out _))
      | (with_reducible exact Later.calls _ (c7.out _))
      | (with_reducible exact Later.calls _ (c8.out _))))
    refine wpQuiet_nil ?_
    rintro _ ⟨⟨w4, hb4⟩, rfl⟩
    go_wp2
    go_ret
    refine ⟨?_, held_next HB3.out hb4⟩
    first
      | rfl
      | (refine ret_bool ?_; simp; omega)

theorem addrCuts_walk (W : World) (a : Ad) (ha : a.ok) (n : Int) (wn : (Lit.int .i64 n).wf = true) (m : Int) (wm : (Lit.int .i64 m).wf = true) (i : Int) (wi : (Lit.int .i64 i).wf = true) :
    Calls Try.prog 4 #[.agg #[.int .u64 (a.1 : Int), .int .u64 (a.2 : Int)], .int .i64 n, .int .i64 m, .int .i64 i] W fun e W' => e = .returned (.bool true) ∧ Below W.heap.size W W' := by
  by_cases h : 0 ≤ n ∧ n ≤ 128 ∧ 0 ≤ m ∧ m ≤ 128 ∧ 0 ≤ i ∧ i ≤ 127
  · obtain ⟨n, rfl⟩ := Int.eq_ofNat_of_zero_le h.1
    obtain ⟨m, rfl⟩ := Int.eq_ofNat_of_zero_le h.2.2.1
    obtain ⟨i, rfl⟩ := Int.eq_ofNat_of_zero_le h.2.2.2.2.1
    exact addrCuts_in W a ha n m i (by omega) (by omega) (by omega)
  · exact addrCuts_out W a n m i h

end Go.Proofs.Ytgmknnmcanbfeaa
