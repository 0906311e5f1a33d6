/-
  Contracts of package pick's functions. No condition but that words are words.
-/
import Derived.Test.YtpjjijhojcfmnaaMix
import Derived.Test.YtpjjijhojcfmnaaSlice
namespace Go.Proofs.Ytpjjijhojcfmnaa
open Go.RowKit
set_option linter.unusedVariables false
set_option linter.unusedSimpArgs false
set_option maxRecDepth 100000

/-- A number below m. -/
def redN (x m : Nat) : Nat := x * m / 2 ^ 64
theorem redN_lt {x m : Nat} (hx : x < 2 ^ 64) (hm : 0 < m) : redN x m < m := by
  unfold redN; rw [Nat.div_lt_iff_lt_mul (by decide), Nat.mul_comm m]
  exact Nat.mul_lt_mul_of_pos_right hx hm
theorem redN_mono {x y : Nat} (m : Nat) (h : x ≤ y) : redN x m ≤ redN y m := Nat.div_le_div_right (Nat.mul_le_mul_right m h)
/-- Reduce, of any int. -/
def redI (x : Nat) (m : Int) : Nat := if m < 1 then 0 else redN x m.toNat

theorem pick_reduce (x : Nat) (hx : x < 2 ^ 64) (m : Int) (hm : m ≤ 9223372036854775807) (w : World) :
    Calls Try.prog 155 #[.int .u64 (x : Int), .int .i64 m] w fun e w' => e = .returned (.int .i64 (redI x m : Int)) ∧ w = w' := by
  by_cases h : m < 1
  · have e : redI x m = 0 := by unfold redI; rw [if_pos h]
    rw [e]
    clear e
    go_enter Try.func155, Try.ntmps155
    go_wp2
    go_ret
    exact ⟨rfl, rfl⟩
  · obtain ⟨k, rfl⟩ := Int.eq_ofNat_of_zero_le (show 0 ≤ m by omega)
    have e : redI x (k : Int) = x * k / 18446744073709551616 := by unfold redI; rw [if_neg h]; rfl
    rw [e]
    have hlt := redN_lt (m := k) hx (by omega)
    have hle : ((x * k / 18446744073709551616 : Nat) : Int) ≤ 9223372036854775807 := by unfold redN at hlt; simp at hlt; omega
    have hge : 0 ≤ ((x * k / 18446744073709551616 : Nat) : Int) := by omega
    have c := hid fun w => still_of (Calls.mono (Try.bits_Mul64 x k (by simpa using hx) (by omega) w) fun _ _ h => ⟨h.1, h.2.symm⟩)
    generalize x * k / 18446744073709551616 = r at c hle hge
    clear e hlt
    go_enter Try.func155, Try.ntmps155
    go_wp2_with fail
    refine (c.out _).mono ?_
    rintro _ w1 ⟨rfl, rfl⟩
    go_wp2_with fail
    go_ret
    exact ⟨rfl, rfl⟩

/-- The places of a key: k of them, of m. -/
def stepN (h g i : Nat) : Nat := (h + i * g) % 2 ^ 64
def gN (h : Nat) : Nat := mixN h ||| 1
def capK (k : Int) : Nat := (min k 16).toNat
def placesOf (s : Nat) (p : Pf) (n : Nat) (m : Int) : List Nat := (List.range n).map fun i => redI (stepN (hashN s p) (gN (hashN s p)) i) m
def placesN (s : Nat) (p : Pf) (k m : Int) : List Nat := if m < 1 then [] else placesOf s p (capK k) m
def intsV (l : List Nat) : List Value := l.map fun (x : Nat) => .int .i64 (x : Int)
theorem intsV_length (l : List Nat) : (intsV l).length = l.length := by simp [intsV]
theorem places_snoc (s : Nat) (p : Pf) (n : Nat) (m : Int) : placesOf s p (n + 1) m = placesOf s p n m ++ [redI (stepN (hashN s p) (gN (hashN s p)) n) m] := by
  simp [placesOf, List.range_succ]
theorem placesOf_length (s : Nat) (p : Pf) (n : Nat) (m : Int) : (placesOf s p n m).length = n := by simp [placesOf]
theorem stepN_lt (h g i : Nat) : stepN h g i < 2 ^ 64 := Nat.mod_lt _ (by decide)
theorem step_walk (h g i : Nat) : IntKind.u64.wrap ((h : Int) + IntKind.u64.wrap ((i : Int) * (g : Int))) = (stepN h g i : Int) := by
  have := wrap_nat (i * g)
  rw [show (((i * g : Nat)) : Int) = (i : Int) * (g : Int) from by simp] at this
  rw [this]
  have h2 := wrap_nat (h + i * g % 2 ^ 64)
  rw [show ((h + i * g % 2 ^ 64 : Nat) : Int) = (h : Int) + ((i * g % 2 ^ 64 : Nat) : Int) from by simp] at h2
  rw [h2]; unfold stepN; omega

theorem int_row : (Try.prog.info? 3).map (fun i => (i.zero, i.size, i.bytes)) = some (some (.int .i64 0), 1, 8) := by kernel_rfl

def PlacesLoop (w : World) (s : Nat) (p : Pf) (N : Nat) (m : Int) (v i : Value) (wr : World) : Prop :=
  ∃ k : Nat, k ≤ N ∧ i = .int .i64 k ∧ Owns wr w.heap.size 3 1 v k (intsV (placesOf s p k m)) ∧ Below w.heap.size w wr

theorem pick_places (s : Nat) (hs : s < 2 ^ 64) (p : Pf) (hp : p.1.ok) (k m : Int) (hm : m ≤ 9223372036854775807) (w : World) :
    Calls Try.prog 127 #[.int .u64 (s : Int), .agg #[.int .u64 (p.1.1 : Int), .int .u64 (p.1.2 : Int), .int .i64 p.2], .int .i64 k, .int .i64 m] w fun e w' =>
      ∃ v, e = .returned v ∧ Owns w' w.heap.size 3 1 v (placesN s p k m).length (intsV (placesN s p k m)) ∧ Below w.heap.size w w' := by
  by_cases h : m < 1
  · have e : placesN s p k m = [] := by unfold placesN; rw [if_pos h]
    rw [e]
    clear e
    obtain ⟨⟨a, b⟩, n⟩ := p
    go_enter Try.func127, Try.ntmps127
    go_wp2
    go_ret
    exact ⟨_, rfl, Owns.nil _ _ _ _, (Below.refl _ _).alloc (Nat.le_refl _) _⟩
  · obtain ⟨N, hN⟩ : ∃ N : Nat, N = capK k := ⟨_, rfl⟩
    have e : placesN s p k m = placesOf s p N m := by unfold placesN; rw [if_neg h, hN]
    rw [e, placesOf_length]
    obtain ⟨k1, hk1⟩ : ∃ k1 : Int, k1 = if 16 < k then 16 else k := ⟨_, rfl⟩
    have m1 := min_at .i64 k 16 k1 hk1
    have m2 := max_at .i64 0 k1 N (by unfold capK at hN; split at hk1 <;> split <;> omega)
    have hN16 : N ≤ 16 := by unfold capK at hN; omega
    clear hk1 hN e
    have c1 := hid fun w => hash s hs p hp w
    have c2 := hid fun w => mix (hashN s p) w
    have e3 := bits_or (mixN (hashN s p)) 1 (mixN_lt _) (by decide)
    have c4 := hid fun i w => pick_reduce (stepN (hashN s p) (gN (hashN s p)) i) (stepN_lt _ _ _) m hm w
    have c5 := hid fun i => step_walk (hashN s p) (gN (hashN s p)) i
    have c6 := hid fun i => places_snoc s p i m
    have e3' : bits .or .u64 (mixN (hashN s p) : Int) 1 = (gN (hashN s p) : Int) := e3
    clear e3
    generalize gN (hashN s p) = g at e3' c4 c5 c6
    generalize mixN (hashN s p) = mx at c2 e3'
    generalize hashN s p = hh at c1 c2 c4 c5 c6
    have h' : 1 ≤ m := by omega
    obtain ⟨⟨a, b⟩, n⟩ := p
    go_enter Try.func127, Try.ntmps127
    go_wp2_with fail
    refine (c1.out _).mono ?_
    rintro _ w1 ⟨rfl, hb1⟩
    go_wp2_with fail
    refine (c2.out _).mono ?_
    rintro _ w2 ⟨rfl, rfl⟩
    have hB : Below w.heap.size w w1 := Below.trans (b := _) ((Below.refl _ _).alloc (Nat.le_refl _) _) (hb1.mono (by simp))
    have HB := hid hB
    clear hB hb1
    go_wp2_with fail
    go_loopw [11, 24] (fun v i wr => PlacesLoop w s ((a, b), n) N m v i wr) (fun _ i _ => N - (intOf i).toNat)
    case atStart => exact ⟨0, Nat.zero_le _, rfl, Owns.nil _ _ _ _, HB.out⟩
    case round =>
      obtain ⟨i, hi, rfl, hO, hB⟩ := hrel
      by_cases hlt : i < N
      · have e5 := c5.out i
        obtain ⟨A, cap, rfl, hnc, hcm, hform⟩ := hO.form
        have HF := hid hform
        clear hform
        have hs0 := hB.size
        go_wp2_with fail
        refine (c4.out i _).mono ?_
        rintro _ w3 ⟨rfl, rfl⟩
        clear e5
        go_wp2_with (at_builtin; refine wpList_push rfl _ _ 47 rfl 3 (.int .i64 0) 1 8 Try.underlying47 int_row rfl (by decide) w.heap.size _ i _ rfl hO [.int .i64 _] rfl rfl ?c1 ?c2 ?c3 ?c4 ?_)
        case c1 => intro u hu; simp at hu; subst hu; rfl
        case c2 => unfold maxLen; omega
        case c3 => omega
        case c4 => exact hs0
        intro v' w4 hO4 hC4
        have hB4 := hB.trans (hC4.below hs0 (fun g hg k => by have := (hO.base_le g k).1; omega))
        clear hO hB hC4
        go_wp2_with fail
        go_roundw
        case rel => exact ⟨i + 1, by omega, by go_num, by rw [c6.out, intsV, List.map_append]; exact hO4, hB4⟩
        case measure => simp [intOf]; omega
      · obtain rfl : i = N := by omega
        have HO := hid hO
        have HB2 := hid hB
        clear hO hB
        go_wp2_with fail
        go_ret
        exact ⟨_, rfl, HO.out, HB2.out⟩

theorem pick_buckets (s : Nat) (hs : s < 2 ^ 64) (p : Pf) (hp : p.1.ok) (n : Int) (hn : n ≤ 9223372036854775807) (w : World) :
    Calls Try.prog 130 #[.int .u64 (s : Int), .agg #[.int .u64 (p.1.1 : Int), .int .u64 (p.1.2 : Int), .int .i64 p.2], .int .i64 n] w fun e w' =>
      e = .returned (.tuple #[.int .i64 (redI (mixN (hashN s p ^^^ 1)) n : Int), .int .i64 (redI (mixN (hashN s p ^^^ 2)) n : Int)]) ∧ Below w.heap.size w w' := by
  have c1 := hid fun w => hash s hs p hp w
  have c2 := hid fun w => mix (hashN s p ^^^ 1) w
  have c3 := hid fun w => mix (hashN s p ^^^ 2) w
  have c4 := hid fun w => pick_reduce (mixN (hashN s p ^^^ 1)) (mixN_lt _) n hn w
  have c5 := hid fun w => pick_reduce (mixN (hashN s p ^^^ 2)) (mixN_lt _) n hn w
  have e1 : bits .xor .u64 (hashN s p : Int) 1 = ((hashN s p ^^^ 1 : Nat) : Int) := bits_xor _ 1 (hashN_lt _ _) (by decide)
  have e2 : bits .xor .u64 (hashN s p : Int) 2 = ((hashN s p ^^^ 2 : Nat) : Int) := bits_xor _ 2 (hashN_lt _ _) (by decide)
  generalize redI (mixN (hashN s p ^^^ 1)) n = r1 at c4 ⊢
  generalize redI (mixN (hashN s p ^^^ 2)) n = r2 at c5 ⊢
  generalize mixN (hashN s p ^^^ 1) = x1 at c2 c4
  generalize mixN (hashN s p ^^^ 2) = x2 at c3 c5
  generalize hashN s p ^^^ 1 = y1 at c2 e1
  generalize hashN s p ^^^ 2 = y2 at c3 e2
  generalize hashN s p = hh at c1 e1 e2
  obtain ⟨⟨a, b⟩, m⟩ := p
  go_enter Try.func130, Try.ntmps130
  go_wp2_with fail
  refine (c1.out _).mono ?_
  rintro _ w1 ⟨rfl, hb1⟩
  have hB : Below w.heap.size w w1 := Below.trans (b := _) ((Below.refl _ _).alloc (Nat.le_refl _) _) (hb1.mono (by simp))
  have HB := hid hB
  clear hB hb1
  go_wp2_with (first
    | (with_reducible refine (c2.out _).mono ?_; rintro _ w2 ⟨rfl, rfl⟩)
    | (with_reducible refine (c3.out _).mono ?_; rintro _ w2 ⟨rfl, rfl⟩)
    | (with_reducible refine (c4.out _).mono ?_; rintro _ w2 ⟨rfl, rfl⟩)
    | (with_reducible refine (c5.out _).mono ?_; rintro _ w2 ⟨rfl, rfl⟩))
  go_ret2
  exact ⟨rfl, HB.out⟩

end Go.Proofs.Ytpjjijhojcfmnaa
