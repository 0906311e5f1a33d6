/-
  Contracts of package nibble's functions: a Nibbles at block g, its words at block q, is a list of counters. Conditions: as each theorem says.
-/
import Derived.Test.YtpjjijhojcfmnaaGreatProg
import Derived.Test.YtpjjijhojcfmnaaGreatGBase
import Derived.Test.YtpjjijhojcfmnaaGreatDig
import Derived.WalkKit
import Derived.RegionTactic
import Derived.ChangeAlike
import Derived.BigQuiet
import Derived.Deep.QuietTactic
import Derived.Deep.OwnRows
namespace Go.Proofs.YtpjjijhojcfmnaaGreat
open Go.RowKit
set_option linter.unusedVariables false
set_option linter.unusedSimpArgs false

/-- Words as cells. -/
def wds (xs : List Nat) : List Value := xs.map fun (x : Nat) => .int .u64 (x : Int)

/-- The Nibbles at block g, its words in block q: the counters are c. -/
structure Nib (w : World) (g q : Nat) (c : List Nat) (xs : List Nat) : Prop where
  top : Blk w g 125 [.slice (some ⟨q, 0, none⟩) xs.length xs.length, .int .i64 c.length]
  row : Blk w q 22 (wds xs)
  ne : g ≠ q
  len : xs.length = (c.length + 15) / 16
  most : c.length ≤ 65536
  small : ∀ (j x : Nat), xs[j]? = some x → x < 16 ^ 16
  digs : ∀ i, i < c.length → dig (xs.getD (i / 16) 0) (i % 16) = c.getD i 0

theorem nib_is {w : World} {g : Nat} {n : Nat} (i : Int) (b : Bool) (hb : b = (decide (0 ≤ i) && decide (i < n))) (hn : w.cell? ⟨g, 1, none⟩ = some (.int .i64 n)) :
    Calls Tryz.prog 88 #[.pointer (some ⟨g, 0, none⟩), .int .i64 i] w fun e w' => e = .returned (.bool b) ∧ w = w' := by
  have HB := hid hb
  clear hb
  by_cases h1 : 0 ≤ i
  · by_cases h2 : i < n
    all_goals
      go_enter Tryz.func88, Tryz.ntmps88
      go_wp2
      go_ret
      exact ⟨by rw [HB.out]; simp [h1, h2], rfl⟩
  · go_enter Tryz.func88, Tryz.ntmps88
    go_wp2
    go_ret
    exact ⟨by have : ¬ 0 ≤ i := by omega
              rw [HB.out]; simp [this], rfl⟩

theorem wds_get {xs : List Nat} {j : Nat} (h : j < xs.length) : (wds xs)[j]? = some (.int .u64 ((xs.getD j 0 : Nat) : Int)) := by
  simp [wds, h]

/-- What a counter tells; 0 where there is none. -/
def at0 (c : List Nat) (i : Int) : Nat := if 0 ≤ i ∧ i < c.length then c.getD i.toNat 0 else 0

theorem Nib.small_ {w : World} {g q : Nat} {c xs : List Nat} (H : Nib w g q c xs) (j : Nat) : xs.getD j 0 < 16 ^ 16 := by
  by_cases h : j < xs.length
  · exact H.small j _ (by simp [h])
  · simp [List.getD, List.getElem?_eq_none (Nat.le_of_not_lt h)]
theorem nib_read (c : List Nat) (X k : Nat) (hX : X < 16 ^ 16) (hk : (k : Int) < c.length) (h : dig X (k % 16) = c.getD k 0) :
    wrap64 (bits .and .u64 ((X : Int) / 2 ^ (4 * (k % 16))) 15) = (at0 c (k : Int) : Int) := by
  have e1 : (X : Int) / 2 ^ (4 * (k % 16)) = ((X / 2 ^ (4 * (k % 16)) : Nat) : Int) := by simp
  have e2 := bits_low (X / 2 ^ (4 * (k % 16))) 4 (Nat.lt_of_le_of_lt (Nat.div_le_self _ _) hX) (by decide)
  rw [e1]
  rw [show (((2 ^ 4 - 1 : Nat) : Int)) = 15 from rfl] at e2
  rw [e2]
  have e3 : X / 2 ^ (4 * (k % 16)) % 2 ^ 4 = dig X (k % 16) := by unfold dig; rw [show (2 : Nat) ^ (4 * (k % 16)) = 16 ^ (k % 16) from by rw [Nat.pow_mul]]
  rw [e3, h]
  have e4 : at0 c (k : Int) = c.getD k 0 := by simp [at0]; omega
  rw [e4, ← h]
  have := dig_le X (k % 16)
  unfold wrap64; omega

theorem nib_get {w : World} {g q : Nat} {c xs : List Nat} (H : Nib w g q c xs) (i : Int) :
    Calls Tryz.prog 73 #[.pointer (some ⟨g, 0, none⟩), .int .i64 i] w fun e w' => e = .returned (.int .i64 (at0 c i)) ∧ w = w' := by
  have h0 := H.top.cellv (i := 0) rfl
  have h1 := H.top.cellv (i := 1) rfl
  have hm := H.most
  by_cases hi : 0 ≤ i ∧ i < c.length
  · obtain ⟨hi0, hi1⟩ := hi
    obtain ⟨k, rfl⟩ := Int.eq_ofNat_of_zero_le hi0
    have hl := H.len
    have hk : (k : Int) / 16 < xs.length := by omega
    clear hl
    have hx := H.row.cellv (i := k / 16) (wds_get (by omega))
    generalize hX : xs.getD (k / 16) 0 = X at hx
    have HX := hid hX
    clear hX
    go_enter Tryz.func73, Tryz.ntmps73
    go_wp2_with (go_at_call 88; refine (nib_is _ true (by simp [hi0, hi1]) h1).mono ?_; rintro e w' ⟨rfl, rfl⟩)
    go_ret
    refine ⟨ret_int ?_, rfl⟩
    have hd := H.digs k (by omega)
    have hX := H.small_ (k / 16)
    rw [HX.out] at hd hX
    exact nib_read c X k hX hi1 hd
  · go_enter Tryz.func73, Tryz.ntmps73
    go_wp2_with (go_at_call 88; refine (nib_is _ false (by simp; omega) h1).mono ?_; rintro e w' ⟨rfl, rfl⟩)
    go_ret
    exact ⟨by simp [at0, hi], rfl⟩

theorem wds_set (xs : List Nat) (j Y : Nat) : (wds xs).set j (.int .u64 (Y : Int)) = wds (xs.set j Y) := by
  simp [wds, List.map_set]

/-- A word is put: one counter turns. -/
theorem Nib.put {w : World} {g q : Nat} {c xs : List Nat} (H : Nib w g q c xs) (k : Nat) (hk : k < c.length) (v Y : Nat) (hY : Y < 16 ^ 16)
    (hd : ∀ j, dig Y j = if j = k % 16 then v else dig (xs.getD (k / 16) 0) j) :
    Nib (w.setCell ⟨q, k / 16, none⟩ (.int .u64 (Y : Int))) g q (c.set k v) (xs.set (k / 16) Y) := by
  have hl := H.len
  refine ⟨?_, ?_, H.ne, by simpa using hl, by simpa using H.most, ?_, ?_⟩
  · have := H.top.set_ne (a := ⟨q, k / 16, none⟩) H.ne (.int .u64 (Y : Int)); simpa using this
  · have := H.row.set (k / 16) (.int .u64 (Y : Int)); rwa [wds_set] at this
  · intro j x hx
    rw [List.getElem?_set] at hx
    split at hx
    · split at hx
      · simp at hx; omega
      · simp at hx
    · exact H.small j x hx
  · intro i hi
    simp at hi
    have hdi := H.digs i hi
    have e1 : (c.set k v).getD i 0 = if i = k then v else c.getD i 0 := by
      simp only [List.getD_eq_getElem?_getD, List.getElem?_set]
      by_cases e : k = i
      · subst e; simp [hk]
      · rw [if_neg e, if_neg (fun h => e h.symm)]
    have e2 : (xs.set (k / 16) Y).getD (i / 16) 0 = if i / 16 = k / 16 then Y else xs.getD (i / 16) 0 := by
      simp only [List.getD_eq_getElem?_getD, List.getElem?_set]
      by_cases e : k / 16 = i / 16
      · rw [if_pos e, if_pos e.symm, if_pos (by omega)]; rfl
      · rw [if_neg e, if_neg (fun h => e h.symm)]
    rw [e1, e2]
    by_cases e : i = k
    · subst e; rw [if_pos rfl, if_pos rfl, hd, if_pos rfl]
    · rw [if_neg e]
      by_cases e' : i / 16 = k / 16
      · rw [if_pos e', hd, if_neg (by omega), ← e', hdi]
      · rw [if_neg e', hdi]

theorem Nib.drew {w : World} {g q : Nat} {c xs : List Nat} (H : Nib w g q c xs) : Nib w.drew g q c xs := ⟨H.top, H.row, H.ne, H.len, H.most, H.small, H.digs⟩
/-- What another one turns leaves it. -/
theorem Nib.chg {w w' : World} {g q : Nat} {c xs : List Nat} {S : Nat → Prop} (H : Nib w g q c xs) (h : Chg S w w') (hg : ¬ S g) (hq : ¬ S q) : Nib w' g q c xs :=
  ⟨H.top.chg h hg, H.row.chg h hq, H.ne, H.len, H.most, H.small, H.digs⟩

theorem pow4 (k : Nat) : (2 : Nat) ^ (4 * k) = 16 ^ k := by rw [Nat.pow_mul]
theorem one_shl (k : Nat) (h : k < 16) : IntKind.u64.wrap ((2 : Int) ^ (4 * k)) = ((16 ^ k : Nat) : Int) := by
  rw [pow_int, pow4]
  exact u64_nat _ (Nat.lt_of_lt_of_le (Nat.pow_lt_pow_right (by decide) h) (by decide))

theorem nib_up_no {w : World} {g q : Nat} {c xs : List Nat} (H : Nib w g q c xs) (i : Int) (hno : ¬ (0 ≤ i ∧ i < c.length) ∨ at0 c i = 15) :
    Calls Tryz.prog 64 #[.pointer (some ⟨g, 0, none⟩), .int .i64 i] w fun e w' => e = .returned (.bool false) ∧ w = w' := by
  have h1 := H.top.cellv (i := 1) rfl
  by_cases hi : 0 ≤ i ∧ i < c.length
  · obtain ⟨hi0, hi1⟩ := hi
    have h15 : (at0 c i : Int) = 15 := by rcases hno with h | h <;> omega
    clear hno
    go_enter Tryz.func64, Tryz.ntmps64
    go_wp2_with first
      | (go_at_call 88; refine (nib_is _ true (by simp [hi0, hi1]) h1).mono ?_; rintro e w' ⟨rfl, rfl⟩)
      | (go_at_call 73; refine (nib_get H _).mono ?_; rintro e w' ⟨rfl, rfl⟩)
    go_ret
    exact ⟨rfl, rfl⟩
  · clear hno
    go_enter Tryz.func64, Tryz.ntmps64
    go_wp2_with first
      | (go_at_call 88; refine (nib_is _ false (by simp; omega) h1).mono ?_; rintro e w' ⟨rfl, rfl⟩)
    go_ret
    exact ⟨rfl, rfl⟩

theorem nib_up_yes {w : World} {g q : Nat} {c xs : List Nat} (H : Nib w g q c xs) (k : Nat) (hk : k < c.length) (hno : c.getD k 0 < 15) :
    Calls Tryz.prog 64 #[.pointer (some ⟨g, 0, none⟩), .int .i64 k] w fun e w' => e = .returned (.bool true) ∧ Nib w' g q (c.set k (c.getD k 0 + 1)) (xs.set (k / 16) (xs.getD (k / 16) 0 + 16 ^ (k % 16))) ∧ Chg (· = q) w w' := by
  have h0 := H.top.cellv (i := 0) rfl
  have h1 := H.top.cellv (i := 1) rfl
  have hm := H.most
  have hn : ((at0 c (k : Int) : Nat) : Int) < 15 := by simp [at0, hk] at hno ⊢; omega
  have hl := H.len
  have hj : (k : Int) / 16 < xs.length := by omega
  clear hl
  have hx := H.row.cellv (i := k / 16) (wds_get (by omega))
  have hf := H.row.frozen (k / 16)
  generalize hX : xs.getD (k / 16) 0 = X at hx
  have HX := hid hX
  clear hX
  have H' : Hid _ := hid H
  go_enter Tryz.func64, Tryz.ntmps64
  go_wp2_with first
    | (go_at_call 88; refine (nib_is _ true (by simp [hk]) h1).mono ?_; rintro e w' ⟨rfl, rfl⟩)
    | (go_at_call 73; refine (nib_get H _).mono ?_; rintro e w' ⟨rfl, rfl⟩)
  go_region
  all_goals go_wp2
  all_goals go_ret
  all_goals
    have hX : X < 16 ^ 16 := by have := H.small_ (k / 16); rwa [HX.out] at this
    have hdk := H.digs k hk
    rw [HX.out] at hdk
    have hY := dig_add_bound (n := 16) hX (Nat.mod_lt k (by decide)) (by rw [hdk]; exact hno)
    have eY : IntKind.u64.wrap ((X : Int) + IntKind.u64.wrap ((2 : Int) ^ (4 * (k % 16)))) = ((X + 16 ^ (k % 16) : Nat) : Int) := by
      rw [one_shl _ (Nat.mod_lt k (by decide)), ← Int.natCast_add]; exact u64_nat _ hY
    rw [eY]
    refine ⟨rfl, ?_, ?_⟩
    · refine (H.put k hk _ _ hY ?_).drew
      intro j; rw [HX.out, dig_add j (by rw [hdk]; exact hno), hdk]
    · exact (Chg.store _ _ _ _).drew

theorem nib_down_no {w : World} {g q : Nat} {c xs : List Nat} (H : Nib w g q c xs) (i : Int) (hno : at0 c i = 0 ∨ at0 c i = 15) :
    Calls Tryz.prog 72 #[.pointer (some ⟨g, 0, none⟩), .int .i64 i] w fun e w' => e = .returned (.bool false) ∧ w = w' := by
  rcases hno with h | h
  · have h' : (at0 c i : Int) = 0 := by omega
    clear h
    go_enter Tryz.func72, Tryz.ntmps72
    go_wp2_with first
      | (go_at_call 73; refine (nib_get H _).mono ?_; rintro e w' ⟨rfl, rfl⟩)
    go_ret
    exact ⟨rfl, rfl⟩
  · have h' : (at0 c i : Int) = 15 := by omega
    clear h
    go_enter Tryz.func72, Tryz.ntmps72
    go_wp2_with first
      | (go_at_call 73; refine (nib_get H _).mono ?_; rintro e w' ⟨rfl, rfl⟩)
    go_ret
    exact ⟨rfl, rfl⟩

theorem nib_down_yes {w : World} {g q : Nat} {c xs : List Nat} (H : Nib w g q c xs) (k : Nat) (hk : k < c.length) (hpos : 0 < c.getD k 0) (hno : c.getD k 0 < 15) :
    Calls Tryz.prog 72 #[.pointer (some ⟨g, 0, none⟩), .int .i64 k] w fun e w' => e = .returned (.bool true) ∧ Nib w' g q (c.set k (c.getD k 0 - 1)) (xs.set (k / 16) (xs.getD (k / 16) 0 - 16 ^ (k % 16))) ∧ Chg (· = q) w w' := by
  have h0 := H.top.cellv (i := 0) rfl
  have h1 := H.top.cellv (i := 1) rfl
  have hm := H.most
  have hn : ((at0 c (k : Int) : Nat) : Int) < 15 := by simp [at0, hk] at hno ⊢; omega
  have hn' : 0 < ((at0 c (k : Int) : Nat) : Int) := by simp [at0, hk] at hpos ⊢; omega
  have hb0 : (((at0 c (k : Int) : Nat) : Int) == 0) = false := beq_eq_false_iff_ne.2 (by omega)
  have hb1 : (((at0 c (k : Int) : Nat) : Int) == 15) = false := beq_eq_false_iff_ne.2 (by omega)
  have hl := H.len
  have hj : (k : Int) / 16 < xs.length := by omega
  clear hl
  have hx := H.row.cellv (i := k / 16) (wds_get (by omega))
  have hf := H.row.frozen (k / 16)
  generalize hX : xs.getD (k / 16) 0 = X at hx
  have HX := hid hX
  clear hX
  have H' : Hid _ := hid H
  go_enter Tryz.func72, Tryz.ntmps72
  go_wp2_with first
    | (go_at_call 73; refine (nib_get H _).mono ?_; rintro e w' ⟨rfl, rfl⟩)
  go_region
  all_goals go_wp2
  all_goals go_ret
  all_goals
    have hX : X < 16 ^ 16 := by have := H.small_ (k / 16); rwa [HX.out] at this
    have hdk := H.digs k hk
    rw [HX.out] at hdk
    have hle := dig_pos_le (x := X) (k := k % 16) (by rw [hdk]; exact hpos)
    have eY : IntKind.u64.wrap ((X : Int) - IntKind.u64.wrap ((2 : Int) ^ (4 * (k % 16)))) = ((X - 16 ^ (k % 16) : Nat) : Int) := by
      rw [one_shl _ (Nat.mod_lt k (by decide)), ← Int.ofNat_sub hle]; exact u64_nat _ (Nat.lt_of_le_of_lt (Nat.sub_le _ _) hX)
    rw [eY]
    refine ⟨rfl, ?_, ?_⟩
    · refine (H.put k hk _ _ (Nat.lt_of_le_of_lt (Nat.sub_le _ _) hX) ?_).drew
      intro j; rw [HX.out, dig_sub j (by rw [hdk]; exact hpos), hdk]
    · exact (Chg.store _ _ _ _).drew

theorem nib_len {w : World} {g q : Nat} {c xs : List Nat} (H : Nib w g q c xs) :
    Calls Tryz.prog 93 #[.pointer (some ⟨g, 0, none⟩)] w fun e w' => e = .returned (.int .i64 c.length) ∧ w = w' := by
  have h1 := H.top.cellv (i := 1) rfl
  go_enter Tryz.func93, Tryz.ntmps93
  go_wp2
  go_ret
  exact ⟨rfl, rfl⟩

/-- How many there are of so many as are asked for. -/
def capN (n : Int) : Nat := (min n 65536).toNat

theorem nib_row_info : (Tryz.prog.info? 22).map (fun i => (i.zero, i.size, i.bytes)) = some (some (.int .u64 0), 1, 8) := by kernel_rfl

theorem nib_new_at (n m : Int) (k : Nat) (hm : m = if 65536 < n then 65536 else n) (hk : (k : Int) = if 0 < m then m else 0) (w : World) :
    Calls Tryz.prog 36 #[.int .i64 n] w fun e w' => ∃ g q, e = .returned (.pointer (some ⟨g, 0, none⟩)) ∧ w.heap.size ≤ g ∧ w.heap.size ≤ q ∧
      Nib w' g q (List.replicate k 0) (List.replicate ((k + 15) / 16) 0) ∧ Below w.heap.size w w' := by
  have hle : k ≤ 65536 := by split at hk <;> split at hm <;> omega
  have e1 := min_at .i64 n 65536 m hm
  have e2 := max_at .i64 0 m k hk
  clear hk hm
  have hmk := fun w => make_at (P := Tryz.prog) 123 22 (.int .u64 0) 8 Tryz.underlying123 nib_row_info rfl .i64 .i64 (((k : Int) + 16 - 1) / 16) ((k + 15) / 16) (by omega) (by omega) (by omega) w
  go_enter Tryz.func36, Tryz.ntmps36
  go_wp2
  go_ret
  refine ⟨_, _, rfl, by simp, Nat.le_refl _, ⟨?_, ?_, by simp, by simp, by simpa using hle, ?_, ?_⟩, ((Below.refl _ _).alloc (Nat.le_refl _) _).alloc (by simp) _⟩
  · have := Blk.new (w.alloc (Obj.cells (madeCells #[Value.int IntKind.u64 0] ((k + 15) / 16)) 22)) [.slice (some ⟨w.heap.size, 0, none⟩) ((k + 15) / 16) ((k + 15) / 16), .int .i64 k] 125
    simpa using this
  · have := (Blk.made w (.int .u64 0) ((k + 15) / 16) 22).alloc (.cells #[.slice (some ⟨w.heap.size, 0, none⟩) ((k + 15) / 16) ((k + 15) / 16), .int .i64 k] 125)
    simpa [wds] using this
  · intro j x hx
    obtain ⟨_, rfl⟩ := (List.getElem?_replicate.symm.trans hx |> fun h => by split at h <;> simp_all : j < (k + 15) / 16 ∧ 0 = x)
    decide
  · intro i hi
    have e1 : (List.replicate ((k + 15) / 16) 0).getD (i / 16) 0 = 0 := by simp [List.getD_eq_getElem?_getD, List.getElem?_replicate]; split <;> rfl
    have e2 : (List.replicate k 0).getD i 0 = 0 := by simp [List.getD_eq_getElem?_getD, List.getElem?_replicate]; split <;> rfl
    rw [e1, e2, dig_zero]

theorem nib_new (n : Int) (w : World) :
    Calls Tryz.prog 36 #[.int .i64 n] w fun e w' => ∃ g q xs, e = .returned (.pointer (some ⟨g, 0, none⟩)) ∧ w.heap.size ≤ g ∧ w.heap.size ≤ q ∧
      Nib w' g q (List.replicate (capN n) 0) xs ∧ Below w.heap.size w w' := by
  refine (nib_new_at n _ (capN n) rfl ?_ w).mono fun e w' ⟨g, q, h1, h2, h3, h4, h5⟩ => ⟨g, q, _, h1, h2, h3, h4, h5⟩
  unfold capN; split <;> split <;> omega

/-- How many are at their top. -/
def fulls (c : List Nat) : Nat := (c.filter (· = 15)).length
theorem fulls_snoc (c : List Nat) (k : Nat) (h : k < c.length) : fulls (c.take (k + 1)) = fulls (c.take k) + if c.getD k 0 = 15 then 1 else 0 := by
  unfold fulls
  rw [List.take_succ_eq_append_getElem h, List.filter_append]
  have : c.getD k 0 = c[k] := by simp [h]
  rw [this]
  by_cases e : c[k] = 15 <;> simp [e]
theorem fulls_le (c : List Nat) : fulls c ≤ c.length := List.length_filter_le _ _

/-- A Nibbles at g, its words at q, with the counters c, whatever its words. -/
def NibAt (w : World) (g q : Nat) (c : List Nat) : Prop := ∃ xs, Nib w g q c xs
theorem NibAt.chg {w w' : World} {g q : Nat} {c : List Nat} {S : Nat → Prop} (H : NibAt w g q c) (h : Chg S w w') (hg : ¬ S g) (hq : ¬ S q) : NibAt w' g q c := let ⟨xs, k⟩ := H; ⟨xs, k.chg h hg hq⟩
theorem NibAt.below {w w' : World} {g q : Nat} {c : List Nat} (H : NibAt w g q c) (h : Below w.heap.size w w') : NibAt w' g q c := H.chg (Chg.of_below h (fun _ => False)) id id
theorem NibAt.lt {w : World} {g q : Nat} {c : List Nat} (H : NibAt w g q c) : g < w.heap.size ∧ q < w.heap.size := let ⟨_, k⟩ := H; ⟨k.top.lt, k.row.lt⟩

def upB (c : List Nat) (i : Int) : Bool := decide (0 ≤ i ∧ i < c.length ∧ at0 c i < 15)
def upC (c : List Nat) (i : Int) : List Nat := if 0 ≤ i ∧ i < c.length ∧ at0 c i < 15 then c.set i.toNat (at0 c i + 1) else c
def downB (c : List Nat) (i : Int) : Bool := decide (0 ≤ i ∧ i < c.length ∧ 0 < at0 c i ∧ at0 c i < 15)
def downC (c : List Nat) (i : Int) : List Nat := if 0 ≤ i ∧ i < c.length ∧ 0 < at0 c i ∧ at0 c i < 15 then c.set i.toNat (at0 c i - 1) else c
theorem upC_length (c : List Nat) (i : Int) : (upC c i).length = c.length := by unfold upC; split <;> simp
theorem downC_length (c : List Nat) (i : Int) : (downC c i).length = c.length := by unfold downC; split <;> simp
theorem at0_nat (c : List Nat) (k : Nat) : at0 c (k : Int) = c.getD k 0 := by
  unfold at0; by_cases h : k < c.length
  · rw [if_pos (by omega)]; rfl
  · rw [if_neg (by omega)]; simp [List.getD_eq_getElem?_getD, List.getElem?_eq_none (Nat.le_of_not_lt h)]
theorem at0_out (c : List Nat) (i : Int) (h : ¬ (0 ≤ i ∧ i < c.length)) : at0 c i = 0 := by unfold at0; rw [if_neg h]
theorem Nib.le15 {w : World} {g q : Nat} {c xs : List Nat} (H : Nib w g q c xs) (i : Int) : at0 c i ≤ 15 := by
  by_cases h : 0 ≤ i ∧ i < c.length
  · obtain ⟨k, rfl⟩ := Int.eq_ofNat_of_zero_le h.1
    rw [at0_nat, ← H.digs k (by omega)]; exact dig_le _ _
  · rw [at0_out c i h]; omega

theorem nib_up {w : World} {g q : Nat} {c : List Nat} (H : NibAt w g q c) (i : Int) :
    Calls Tryz.prog 64 #[.pointer (some ⟨g, 0, none⟩), .int .i64 i] w fun e w' => e = .returned (.bool (upB c i)) ∧ NibAt w' g q (upC c i) ∧ Chg (· = q) w w' := by
  obtain ⟨xs, H⟩ := H
  have h15 := H.le15 i
  by_cases h : 0 ≤ i ∧ i < c.length ∧ at0 c i < 15
  · obtain ⟨k, rfl⟩ := Int.eq_ofNat_of_zero_le h.1
    have hc := h.2.2
    rw [at0_nat] at hc
    refine (nib_up_yes H k (by omega) hc).mono fun e w' ⟨h1, h2, h3⟩ => ⟨?_, ?_, h3⟩
    · rw [h1]; simp [upB, h]
    · unfold upC; rw [if_pos h, at0_nat]; exact ⟨_, h2⟩
  · refine (nib_up_no H i ?_).mono fun e w' ⟨h1, h2⟩ => ⟨?_, ⟨xs, ?_⟩, h2 ▸ Chg.refl _ _⟩
    · by_cases h1 : 0 ≤ i ∧ i < c.length
      · right; omega
      · left; exact h1
    · rw [h1]; simp [upB, h]
    · unfold upC; rw [if_neg h]; exact h2 ▸ H
theorem nib_down {w : World} {g q : Nat} {c : List Nat} (H : NibAt w g q c) (i : Int) :
    Calls Tryz.prog 72 #[.pointer (some ⟨g, 0, none⟩), .int .i64 i] w fun e w' => e = .returned (.bool (downB c i)) ∧ NibAt w' g q (downC c i) ∧ Chg (· = q) w w' := by
  obtain ⟨xs, H⟩ := H
  have h15 := H.le15 i
  by_cases h : 0 ≤ i ∧ i < c.length ∧ 0 < at0 c i ∧ at0 c i < 15
  · obtain ⟨k, rfl⟩ := Int.eq_ofNat_of_zero_le h.1
    have hc := h.2.2
    rw [at0_nat] at hc
    refine (nib_down_yes H k (by omega) hc.1 hc.2).mono fun e w' ⟨h1, h2, h3⟩ => ⟨?_, ?_, h3⟩
    · rw [h1]; simp [downB, h]
    · unfold downC; rw [if_pos h, at0_nat]; exact ⟨_, h2⟩
  · refine (nib_down_no H i ?_).mono fun e w' ⟨h1, h2⟩ => ⟨?_, ⟨xs, ?_⟩, h2 ▸ Chg.refl _ _⟩
    · by_cases h1 : 0 ≤ i ∧ i < c.length
      · omega
      · left; exact at0_out c i h1
    · rw [h1]; simp [downB, h]
    · unfold downC; rw [if_neg h]; exact h2 ▸ H
theorem nib_at {w : World} {g q : Nat} {c : List Nat} (H : NibAt w g q c) (i : Int) :
    Calls Tryz.prog 73 #[.pointer (some ⟨g, 0, none⟩), .int .i64 i] w fun e w' => e = .returned (.int .i64 (at0 c i)) ∧ w = w' := by
  obtain ⟨xs, H⟩ := H; exact nib_get H i
theorem nib_length {w : World} {g q : Nat} {c : List Nat} (H : NibAt w g q c) :
    Calls Tryz.prog 93 #[.pointer (some ⟨g, 0, none⟩)] w fun e w' => e = .returned (.int .i64 c.length) ∧ w = w' := by
  obtain ⟨xs, H⟩ := H; exact nib_len H
theorem nib_make (n : Int) (w : World) :
    Calls Tryz.prog 36 #[.int .i64 n] w fun e w' => ∃ g q, e = .returned (.pointer (some ⟨g, 0, none⟩)) ∧ w.heap.size ≤ g ∧ w.heap.size ≤ q ∧ g ≠ q ∧
      NibAt w' g q (List.replicate (capN n) 0) ∧ Below w.heap.size w w' :=
  (nib_new n w).mono fun e w' ⟨g, q, xs, h1, h2, h3, h4, h5⟩ => ⟨g, q, h1, h2, h3, h4.ne, ⟨xs, h4⟩, h5⟩

theorem nib_at' {w : World} {g q : Nat} {c : List Nat} (H : NibAt w g q c) (i x : Int) (hx : (at0 c i : Int) = x) :
    Calls Tryz.prog 73 #[.pointer (some ⟨g, 0, none⟩), .int .i64 i] w fun e w' => e = .returned (.int .i64 x) ∧ w = w' := hx ▸ nib_at H i
theorem nib_length' {w : World} {g q : Nat} {c : List Nat} (H : NibAt w g q c) (x : Int) (hx : (c.length : Int) = x) :
    Calls Tryz.prog 93 #[.pointer (some ⟨g, 0, none⟩)] w fun e w' => e = .returned (.int .i64 x) ∧ w = w' := hx ▸ nib_length H

theorem NibAt.drewN {w : World} {g q : Nat} {c : List Nat} (H : NibAt w g q c) (n : Nat) : NibAt (w.drewN n) g q c := H.chg ((Chg.refl (fun _ => False) w).drewN n) id id
theorem NibAt.drew {w : World} {g q : Nat} {c : List Nat} (H : NibAt w g q c) : NibAt w.drew g q c := H.chg ((Chg.refl (fun _ => False) w).drew) id id
/-- The reading of a counter inside a region that draws its order. -/
theorem nib_quiet {w : World} {g q : Nat} {c : List Nat} (H : NibAt w g q c) (i x : Int) (hx : (at0 c i : Int) = x) (n : Nat) :
    Calls Tryz.prog 73 #[.pointer (some ⟨g, 0, none⟩), .int .i64 i] (w.drewN n) fun e w' => e = .returned (.int .i64 x) ∧ w' = w.drewN n :=
  (nib_at' (H.drewN n) i x hx).mono fun _ _ ⟨h1, h2⟩ => ⟨h1, h2.symm⟩

end Go.Proofs.YtpjjijhojcfmnaaGreat
