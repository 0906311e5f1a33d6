/-
  Contracts of package mirror's functions: a Bits at block g, its words at block q, is a list of truths. Conditions: as each theorem says.
-/
import Derived.Test.YtpjjijhojcfmnaaGreatOnes
import Derived.Handy
namespace Go.Proofs.YtpjjijhojcfmnaaGreat
open Go.RowKit
set_option linter.unusedVariables false
set_option linter.unusedSimpArgs false

def mwds (xs : List Nat) : List Value := xs.map fun (x : Nat) => .int .u64 (x : Int)
theorem mwds_get {xs : List Nat} {j : Nat} (h : j < xs.length) : (mwds xs)[j]? = some (.int .u64 ((xs.getD j 0 : Nat) : Int)) := by simp [mwds, h]
theorem mwds_set (xs : List Nat) (j Y : Nat) : (mwds xs).set j (.int .u64 (Y : Int)) = mwds (xs.set j Y) := by simp [mwds, List.map_set]

/-- The Bits at block g, its words in block q. -/
structure Mir (w : World) (g q : Nat) (c : List Bool) (xs : List Nat) : Prop where
  top : Blk w g 127 [.slice (some ⟨q, 0, none⟩) xs.length xs.length, .int .i64 c.length]
  row : Blk w q 22 (mwds xs)
  ne : g ≠ q
  len : xs.length = (c.length + 63) / 64
  most : c.length ≤ 65536
  small : ∀ j, xs.getD j 0 < 2 ^ 64
  bits : ∀ j t, t < 64 → (xs.getD j 0).testBit t = c.getD (64 * j + t) false

theorem Mir.chg {w w' : World} {g q : Nat} {c : List Bool} {xs : List Nat} {S : Nat → Prop} (H : Mir w g q c xs) (h : Chg S w w') (hg : ¬ S g) (hq : ¬ S q) : Mir w' g q c xs :=
  ⟨H.top.chg h hg, H.row.chg h hq, H.ne, H.len, H.most, H.small, H.bits⟩

theorem Mir.drew {w : World} {g q : Nat} {c : List Bool} {xs : List Nat} (H : Mir w g q c xs) : Mir w.drew g q c xs := H.chg ((Chg.refl (fun _ => False) w).drew) id id

theorem mir_is {w : World} {g : Nat} {n : Nat} (i : Int) (b : Bool) (hb : b = (decide (0 ≤ i) && decide (i < n))) (hn : w.cell? ⟨g, 1, none⟩ = some (.int .i64 n)) :
    Calls Tryz.prog 80 #[.pointer (some ⟨g, 0, none⟩), .int .i64 i] w fun e w' => e = .returned (.bool b) ∧ w = w' := by
  have HB := hid hb
  clear hb
  by_cases h1 : 0 ≤ i
  · by_cases h2 : i < n
    all_goals
      go_enter Tryz.func80, Tryz.ntmps80
      go_wp2
      go_ret
      exact ⟨by rw [HB.out]; simp [h1, h2], rfl⟩
  · go_enter Tryz.func80, Tryz.ntmps80
    go_wp2
    go_ret
    exact ⟨by have : ¬ 0 ≤ i := by omega
              rw [HB.out]; simp [this], rfl⟩

/-- Whether a bit is on; off where there is none. -/
def on0 (c : List Bool) (i : Int) : Bool := if 0 ≤ i ∧ i < c.length then c.getD i.toNat false else false
theorem on0_nat (c : List Bool) (k : Nat) : on0 c (k : Int) = c.getD k false := by
  unfold on0; by_cases h : k < c.length
  · rw [if_pos (by omega)]; rfl
  · rw [if_neg (by omega)]; simp [List.getD_eq_getElem?_getD, List.getElem?_eq_none (Nat.le_of_not_lt h)]
theorem on0_out (c : List Bool) (i : Int) (h : ¬ (0 ≤ i ∧ i < c.length)) : on0 c i = false := by unfold on0; rw [if_neg h]

theorem mir_read (X m : Nat) (hX : X < 2 ^ 64) : (bits .and .u64 ((X : Int) / 2 ^ m) 1 == 1) = X.testBit m := by
  have e2 := bits_low (X / 2 ^ m) 1 (Nat.lt_of_le_of_lt (Nat.div_le_self _ _) hX) (by decide)
  rw [show (((2 ^ 1 - 1 : Nat) : Int)) = 1 from rfl] at e2
  rw [div_nat, e2, Nat.testBit_eq_decide_div_mod_eq]
  rcases Nat.mod_two_eq_zero_or_one (X / 2 ^ m) with h | h <;> simp [h]

theorem mir_get {w : World} {g q : Nat} {c : List Bool} {xs : List Nat} (H : Mir w g q c xs) (i : Int) :
    Calls Tryz.prog 53 #[.pointer (some ⟨g, 0, none⟩), .int .i64 i] w fun e w' => e = .returned (.bool (on0 c i)) ∧ w = w' := by
  have h0 := H.top.cellv (i := 0) rfl
  have h1 := H.top.cellv (i := 1) rfl
  have hm := H.most
  by_cases hi : 0 ≤ i ∧ i < c.length
  · obtain ⟨hi0, hi1⟩ := hi
    obtain ⟨k, rfl⟩ := Int.eq_ofNat_of_zero_le hi0
    have hl := H.len
    have hk : (k : Int) / 64 < xs.length := by omega
    clear hl
    have hx := H.row.cellv (i := k / 64) (mwds_get (by omega))
    generalize hX : xs.getD (k / 64) 0 = X at hx
    have HX := hid hX
    clear hX
    go_enter Tryz.func53, Tryz.ntmps53
    go_wp2_with (go_at_call 80; refine (mir_is _ true (by simp [hi0, hi1]) h1).mono ?_; rintro e w' ⟨rfl, rfl⟩)
    go_ret
    have hX := H.small (k / 64)
    have hd := H.bits (k / 64) (k % 64) (Nat.mod_lt _ (by decide))
    rw [HX.out] at hX hd
    rw [show 64 * (k / 64) + k % 64 = k by omega] at hd
    have e : (bits .and .u64 ((X : Int) / 2 ^ (k % 64)) 1 == 1) = on0 c k := by rw [on0_nat, mir_read X _ hX, hd]
    exact ⟨congrArg (fun b => Ending.returned (.bool b)) e, rfl⟩
  · go_enter Tryz.func53, Tryz.ntmps53
    go_wp2_with (go_at_call 80; refine (mir_is _ false (by simp; omega) h1).mono ?_; rintro e w' ⟨rfl, rfl⟩)
    go_ret
    exact ⟨by rw [on0_out c i hi]; rfl, rfl⟩

theorem Mir.put {w : World} {g q : Nat} {c : List Bool} {xs : List Nat} (H : Mir w g q c xs) (k : Nat) (hk : k < c.length) (v : Bool) (Y : Nat) (hY : Y < 2 ^ 64)
    (hd : ∀ t, t < 64 → Y.testBit t = if t = k % 64 then v else (xs.getD (k / 64) 0).testBit t) :
    Mir (w.setCell ⟨q, k / 64, none⟩ (.int .u64 (Y : Int))) g q (c.set k v) (xs.set (k / 64) Y) := by
  have hl := H.len
  have e2 : ∀ j, (xs.set (k / 64) Y).getD j 0 = if j = k / 64 then Y else xs.getD j 0 := by
    intro j
    simp only [List.getD_eq_getElem?_getD, List.getElem?_set]
    by_cases e : k / 64 = j
    · rw [if_pos e, if_pos e.symm, if_pos (by omega)]; rfl
    · rw [if_neg e, if_neg (fun h => e h.symm)]
  refine ⟨?_, ?_, H.ne, by simpa using hl, by simpa using H.most, ?_, ?_⟩
  · have := H.top.set_ne (a := ⟨q, k / 64, none⟩) H.ne (.int .u64 (Y : Int)); simpa using this
  · have := H.row.set (k / 64) (.int .u64 (Y : Int)); rwa [mwds_set] at this
  · intro j; rw [e2]; split
    · exact hY
    · exact H.small j
  · intro j t ht
    have e1 : (c.set k v).getD (64 * j + t) false = if 64 * j + t = k then v else c.getD (64 * j + t) false := by
      simp only [List.getD_eq_getElem?_getD, List.getElem?_set]
      by_cases e : k = 64 * j + t
      · rw [if_pos e, if_pos e.symm, if_pos hk]; rfl
      · rw [if_neg e, if_neg (fun h => e h.symm)]
    rw [e1, e2, ← H.bits j t ht]
    by_cases ej : j = k / 64
    · subst ej
      rw [if_pos rfl, hd t ht]
      by_cases e : t = k % 64
      · rw [if_pos e, if_pos (by omega)]
      · rw [if_neg e, if_neg (by omega)]
    · rw [if_neg ej, if_neg (by omega)]

def setC (c : List Bool) (i : Int) (b : Bool) : List Bool := if 0 ≤ i ∧ i < c.length then c.set i.toNat b else c
theorem setC_length (c : List Bool) (i : Int) (b : Bool) : (setC c i b).length = c.length := by unfold setC; split <;> simp
theorem setC_nat (c : List Bool) (k : Nat) (b : Bool) : setC c (k : Int) b = c.set k b := by
  unfold setC; by_cases h : k < c.length
  · rw [if_pos (by omega)]; rfl
  · rw [if_neg (by omega), List.set_eq_of_length_le (by omega)]

theorem shl_one (m : Nat) (hm : m < 64) : IntKind.u64.wrap ((2 : Int) ^ m) = ((2 ^ m : Nat) : Int) := by
  rw [pow_int]; exact u64_nat _ (Nat.pow_lt_pow_right (by decide) hm)

theorem mir_set {w : World} {g q : Nat} {c : List Bool} {xs : List Nat} (H : Mir w g q c xs) (i : Int) (b : Bool) :
    Calls Tryz.prog 65 #[.pointer (some ⟨g, 0, none⟩), .int .i64 i, .bool b] w fun e w' => e = .returned (.tuple #[]) ∧ (∃ xs', Mir w' g q (setC c i b) xs') ∧ Chg (· = q) w w' := by
  have h0 := H.top.cellv (i := 0) rfl
  have h1 := H.top.cellv (i := 1) rfl
  have hm := H.most
  by_cases hi : 0 ≤ i ∧ i < c.length
  · obtain ⟨hi0, hi1⟩ := hi
    obtain ⟨k, rfl⟩ := Int.eq_ofNat_of_zero_le hi0
    have hl := H.len
    have hk : (k : Int) / 64 < xs.length := by omega
    clear hl
    have hx := H.row.cellv (i := k / 64) (mwds_get (by omega))
    have hf := H.row.frozen (k / 64)
    generalize hX : xs.getD (k / 64) 0 = X at hx
    have HX := hid hX
    clear hX
    cases b
    · go_enter Tryz.func65, Tryz.ntmps65
      go_wp2_with (go_at_call 80; refine (mir_is _ true (by simp [hi0, hi1]) h1).mono ?_; rintro e w' ⟨rfl, rfl⟩)
      go_region
      all_goals go_wp2
      all_goals go_returns
      have hX := H.small (k / 64)
      rw [HX.out] at hX
      rw [shl_one _ (Nat.mod_lt k (by decide)), bits_andNot]
      refine ⟨rfl, ⟨xs.set (k / 64) (nandN X (2 ^ (k % 64))), ?_⟩, (Chg.store _ _ _ _).drew⟩
      rw [setC_nat]
      refine (H.put k (by omega) false _ (nandN_lt _ _) ?_).drew
      intro t ht
      rw [nandN_testBit _ _ hX, HX.out, Nat.testBit_two_pow]
      by_cases e : t = k % 64
      · subst e; simp
      · rw [if_neg e]; simp [show ¬ k % 64 = t from fun h => e h.symm]
    · go_enter Tryz.func65, Tryz.ntmps65
      go_wp2_with (go_at_call 80; refine (mir_is _ true (by simp [hi0, hi1]) h1).mono ?_; rintro e w' ⟨rfl, rfl⟩)
      go_region
      all_goals go_wp2
      all_goals go_returns
      have hX := H.small (k / 64)
      rw [HX.out] at hX
      have hp : 2 ^ (k % 64) < 2 ^ 64 := Nat.pow_lt_pow_right (by decide) (Nat.mod_lt k (by decide))
      rw [shl_one _ (Nat.mod_lt k (by decide)), bits_or _ _ hX hp]
      refine ⟨rfl, ⟨xs.set (k / 64) (X ||| 2 ^ (k % 64)), ?_⟩, (Chg.store _ _ _ _).drew⟩
      rw [setC_nat]
      refine (H.put k (by omega) true _ (Nat.or_lt_two_pow hX hp) ?_).drew
      intro t ht
      rw [Nat.testBit_or, HX.out, Nat.testBit_two_pow]
      by_cases e : t = k % 64
      · subst e; simp
      · rw [if_neg e]; simp [show ¬ k % 64 = t from fun h => e h.symm]
  · go_enter Tryz.func65, Tryz.ntmps65
    go_wp2_with (go_at_call 80; refine (mir_is _ false (by simp; omega) h1).mono ?_; rintro e w' ⟨rfl, rfl⟩)
    go_returns
    refine ⟨rfl, ⟨xs, ?_⟩, Chg.refl _ _⟩
    unfold setC; rw [if_neg hi]; exact H

theorem cnt_next (c : List Bool) (xs : List Nat) (hb : ∀ j t, t < 64 → (xs.getD j 0).testBit t = c.getD (64 * j + t) false) (j : Nat) :
    (c.take (64 * (j + 1))).countP id = (c.take (64 * j)).countP id + pop 64 (xs.getD j 0) := by
  rw [pop_list c 64 (xs.getD j 0) (64 * j) (hb j), show 64 * (j + 1) = 64 * j + 64 by omega, List.take_add, List.countP_append]

/-- A Bits at g, its words at q, with the truths c, whatever its words. -/
def MirAt (w : World) (g q : Nat) (c : List Bool) : Prop := ∃ xs, Mir w g q c xs
theorem MirAt.chg {w w' : World} {g q : Nat} {c : List Bool} {S : Nat → Prop} (H : MirAt w g q c) (h : Chg S w w') (hg : ¬ S g) (hq : ¬ S q) : MirAt w' g q c := let ⟨xs, k⟩ := H; ⟨xs, k.chg h hg hq⟩
theorem MirAt.below {w w' : World} {g q : Nat} {c : List Bool} (H : MirAt w g q c) (h : Below w.heap.size w w') : MirAt w' g q c := H.chg (Chg.of_below h (fun _ => False)) id id
theorem MirAt.lt {w : World} {g q : Nat} {c : List Bool} (H : MirAt w g q c) : g < w.heap.size ∧ q < w.heap.size := let ⟨_, k⟩ := H; ⟨k.top.lt, k.row.lt⟩
theorem MirAt.drewN {w : World} {g q : Nat} {c : List Bool} (H : MirAt w g q c) (n : Nat) : MirAt (w.drewN n) g q c := H.chg ((Chg.refl (fun _ => False) w).drewN n) id id

theorem mir_at {w : World} {g q : Nat} {c : List Bool} (H : MirAt w g q c) (i : Int) (b : Bool) (hb : on0 c i = b) :
    Calls Tryz.prog 53 #[.pointer (some ⟨g, 0, none⟩), .int .i64 i] w fun e w' => e = .returned (.bool b) ∧ w = w' := by
  obtain ⟨xs, H⟩ := H; exact hb ▸ mir_get H i
theorem mir_put {w : World} {g q : Nat} {c : List Bool} (H : MirAt w g q c) (i : Int) (b : Bool) :
    Calls Tryz.prog 65 #[.pointer (some ⟨g, 0, none⟩), .int .i64 i, .bool b] w fun e w' => e = .returned (.tuple #[]) ∧ MirAt w' g q (setC c i b) ∧ Chg (· = q) w w' := by
  obtain ⟨xs, H⟩ := H; exact mir_set H i b
theorem mir_row_info : (Tryz.prog.info? 22).map (fun i => (i.zero, i.size, i.bytes)) = some (some (.int .u64 0), 1, 8) := by kernel_rfl
/-- How many bits there are of so many as are asked for. -/
def mcap (n : Int) : Nat := (min n 65536).toNat
theorem mir_new_at (n m : Int) (k : Nat) (hm : m = if 65536 < n then 65536 else n) (hk : (k : Int) = if 0 < m then m else 0) (w : World) :
    Calls Tryz.prog 37 #[.int .i64 n] w fun e w' => ∃ g q, e = .returned (.pointer (some ⟨g, 0, none⟩)) ∧ w.heap.size ≤ g ∧ w.heap.size ≤ q ∧
      Mir w' g q (List.replicate k false) (List.replicate ((k + 63) / 64) 0) ∧ Below w.heap.size w w' := by
  have hle : k ≤ 65536 := by split at hk <;> split at hm <;> omega
  have e1 := min_at .i64 n 65536 m hm
  have e2 := max_at .i64 0 m k hk
  clear hk hm
  have hmk := fun w => make_at (P := Tryz.prog) 123 22 (.int .u64 0) 8 Tryz.underlying123 mir_row_info rfl .i64 .i64 (((k : Int) + 64 - 1) / 64) ((k + 63) / 64) (by omega) (by omega) (by omega) w
  go_enter Tryz.func37, Tryz.ntmps37
  go_wp2
  go_ret
  refine ⟨_, _, rfl, by simp, Nat.le_refl _, ⟨?_, ?_, by simp, by simp, by simpa using hle, ?_, ?_⟩, ((Below.refl _ _).alloc (Nat.le_refl _) _).alloc (by simp) _⟩
  · have := Blk.new (w.alloc (Obj.cells (madeCells #[Value.int IntKind.u64 0] ((k + 63) / 64)) 22)) [.slice (some ⟨w.heap.size, 0, none⟩) ((k + 63) / 64) ((k + 63) / 64), .int .i64 k] 127
    simpa using this
  · have := (Blk.made w (.int .u64 0) ((k + 63) / 64) 22).alloc (.cells #[.slice (some ⟨w.heap.size, 0, none⟩) ((k + 63) / 64) ((k + 63) / 64), .int .i64 k] 127)
    simpa [mwds] using this
  · intro j
    have e : (List.replicate ((k + 63) / 64) 0).getD j 0 = 0 := by simp [List.getD_eq_getElem?_getD, List.getElem?_replicate]; split <;> rfl
    rw [e]; decide
  · intro j t ht
    have e : (List.replicate ((k + 63) / 64) 0).getD j 0 = 0 := by simp [List.getD_eq_getElem?_getD, List.getElem?_replicate]; split <;> rfl
    have e2 : (List.replicate k false).getD (64 * j + t) false = false := by simp [List.getD_eq_getElem?_getD, List.getElem?_replicate]; split <;> rfl
    rw [e, e2]; exact Nat.zero_testBit t
theorem mir_make (n : Int) (w : World) :
    Calls Tryz.prog 37 #[.int .i64 n] w fun e w' => ∃ g q, e = .returned (.pointer (some ⟨g, 0, none⟩)) ∧ w.heap.size ≤ g ∧ w.heap.size ≤ q ∧ g ≠ q ∧
      MirAt w' g q (List.replicate (mcap n) false) ∧ Below w.heap.size w w' := by
  refine (mir_new_at n _ (mcap n) rfl ?_ w).mono fun e w' ⟨g, q, h1, h2, h3, h4, h5⟩ => ⟨g, q, h1, h2, h3, h4.ne, ⟨_, h4⟩, h5⟩
  unfold mcap; split <;> split <;> omega
end Go.Proofs.YtpjjijhojcfmnaaGreat
