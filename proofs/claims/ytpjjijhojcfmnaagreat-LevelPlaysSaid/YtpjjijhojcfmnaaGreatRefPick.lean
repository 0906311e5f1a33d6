/-
  Contracts of the reference's functions for hashes and places, and of its comparing of two lists of ints. No condition but that words are words.
-/
import Derived.Test.YtpjjijhojcfmnaaGreatGBase
import Derived.Test.YtpjjijhojcfmnaaGreatGRef
namespace Go.Proofs.YtpjjijhojcfmnaaGreat
open Go.RowKit
set_option linter.unusedVariables false
set_option linter.unusedSimpArgs false
set_option maxRecDepth 100000

theorem ref_mix (x : Nat) (w : World) : Calls Tryz.prog 21 #[.int .u64 (x : Int)] w fun e w' => e = .returned (.int .u64 (mixN x : Int)) ∧ w = w' := by
  obtain ⟨h1, h2, h3, h4, h5, h6⟩ := mix_steps x
  generalize mixA x ^^^ mixA x / 2 ^ 30 = a1 at h2 h3
  generalize mixB x ^^^ mixB x / 2 ^ 27 = b1 at h4 h5
  generalize mixA x = a0 at h1 h2
  generalize mixB x = b0 at h3 h4
  generalize mixC x = c0 at h5 h6
  generalize mixN x = r at h6 ⊢
  go_enter Tryz.func21, Tryz.ntmps21
  go_wp2
  go_ret
  exact ⟨rfl, rfl⟩

theorem ref_hash (s : Nat) (hs : s < 2 ^ 64) (p : Pf) (hp : p.1.ok) (w : World) :
    Calls Tryz.prog 76 #[.int .u64 (s : Int), .agg #[.int .u64 (p.1.1 : Int), .int .u64 (p.1.2 : Int), .int .i64 p.2]] w fun e w' => e = .returned (.int .u64 (hashN s p : Int)) ∧ Below w.heap.size w w' := by
  obtain ⟨⟨a, b⟩, n⟩ := p
  have e1 := bits_xor s a hs hp.1
  have e2 := bits_xor (mixN (s ^^^ a)) b (mixN_lt _) hp.2
  have e3 := bits_xor (mixN (mixN (s ^^^ a) ^^^ b)) (lenW n) (mixN_lt _) (lenW_lt n)
  have e4 := wrap_len n
  have hN : hashN s ((a, b), n) = mixN (mixN (mixN (s ^^^ a) ^^^ b) ^^^ lenW n) := rfl
  rw [hN]
  clear hN
  have c1 := hid fun w => ref_mix (s ^^^ a) w
  have c2 := hid fun w => ref_mix (mixN (s ^^^ a) ^^^ b) w
  have c3 := hid fun w => ref_mix (mixN (mixN (s ^^^ a) ^^^ b) ^^^ lenW n) w
  generalize mixN (mixN (mixN (s ^^^ a) ^^^ b) ^^^ lenW n) = r3 at c3 ⊢
  generalize mixN (mixN (s ^^^ a) ^^^ b) ^^^ lenW n = x3 at e3 c3
  generalize mixN (mixN (s ^^^ a) ^^^ b) = r2 at c2 e3
  generalize mixN (s ^^^ a) ^^^ b = x2 at e2 c2
  generalize mixN (s ^^^ a) = r1 at c1 e2
  generalize s ^^^ a = x1 at e1 c1
  generalize lenW n = l at e4 e3
  go_enter Tryz.func76, Tryz.ntmps76
  go_wp2_with fail
  refine wp_region_later (fun w' => w'.cell? ⟨w.heap.size, 0, none⟩ = some (.int .u64 (a : Int)) ∧ w'.cell? ⟨w.heap.size, 1, none⟩ = some (.int .u64 (b : Int)) ∧ w'.cell? ⟨w.heap.size, 2, none⟩ = some (.int .i64 n))
    (fun x => ⟨x.cell (by simp), x.cell (by simp), x.cell (by simp)⟩) (by kernel_rfl) (by kernel_rfl) (fun HS => ?_)
  repeat (go_big_quiet_step (first
    | (with_reducible exact Later.calls_same _ (c1.out _))
    | (with_reducible exact Later.calls_same _ (c2.out _))
    | (with_reducible exact Later.calls_same _ (c3.out _))))
  refine wpQuiet_nil ?_
  rintro w1 ⟨⟨_, hb1⟩, rfl⟩
  go_wp2
  go_ret
  exact ⟨rfl, Below.trans (b := _) ((Below.refl _ _).alloc (Nat.le_refl _) _) (hb1.mono (by simp))⟩

/-- The product's high word, by halves. -/
theorem mul_halves (x y : Nat) (hx : x < 2 ^ 64) (hy : y < 2 ^ 64) :
    x / 2 ^ 32 * (y % 2 ^ 32) + x % 2 ^ 32 * (y % 2 ^ 32) / 2 ^ 32 < 2 ^ 64 ∧
    x % 2 ^ 32 * (y / 2 ^ 32) + (x / 2 ^ 32 * (y % 2 ^ 32) + x % 2 ^ 32 * (y % 2 ^ 32) / 2 ^ 32) % 2 ^ 32 < 2 ^ 64 ∧
    x / 2 ^ 32 * (y / 2 ^ 32) + (x / 2 ^ 32 * (y % 2 ^ 32) + x % 2 ^ 32 * (y % 2 ^ 32) / 2 ^ 32) / 2 ^ 32 + (x % 2 ^ 32 * (y / 2 ^ 32) + (x / 2 ^ 32 * (y % 2 ^ 32) + x % 2 ^ 32 * (y % 2 ^ 32) / 2 ^ 32) % 2 ^ 32) / 2 ^ 32 = redN x y := by
  obtain ⟨a, ha⟩ : ∃ a, a = x / 2 ^ 32 := ⟨_, rfl⟩
  obtain ⟨b, hb⟩ : ∃ b, b = x % 2 ^ 32 := ⟨_, rfl⟩
  obtain ⟨c, hc⟩ : ∃ c, c = y / 2 ^ 32 := ⟨_, rfl⟩
  obtain ⟨d, hd⟩ : ∃ d, d = y % 2 ^ 32 := ⟨_, rfl⟩
  have ex : x = a * 2 ^ 32 + b := by omega
  have ey : y = c * 2 ^ 32 + d := by omega
  rw [← ha, ← hb, ← hc, ← hd]
  have la : a ≤ 4294967295 := by omega
  have lb : b ≤ 4294967295 := by omega
  have lc : c ≤ 4294967295 := by omega
  have ld : d ≤ 4294967295 := by omega
  have m1 : a * d ≤ 18446744065119617025 := Nat.le_trans (Nat.mul_le_mul la ld) (by decide)
  have m2 : b * d ≤ 18446744065119617025 := Nat.le_trans (Nat.mul_le_mul lb ld) (by decide)
  have m3 : b * c ≤ 18446744065119617025 := Nat.le_trans (Nat.mul_le_mul lb lc) (by decide)
  have ep : x * y = a * c * 18446744073709551616 + (a * d + b * c) * 4294967296 + b * d := by
    rw [ex, ey, Nat.add_mul, Nat.mul_add, Nat.mul_add, Nat.add_mul]
    have e1 : a * 2 ^ 32 * (c * 2 ^ 32) = a * c * 18446744073709551616 := by
      rw [Nat.mul_mul_mul_comm]
    have e2 : a * 2 ^ 32 * d = a * d * 4294967296 := by rw [Nat.mul_right_comm]
    have e3 : b * (c * 2 ^ 32) = b * c * 4294967296 := by rw [Nat.mul_assoc]
    rw [e1, e2, e3]; omega
  unfold redN
  rw [ep]
  generalize a * d = P at *
  generalize b * d = Q at *
  generalize b * c = R at *
  generalize a * c = S at *
  refine ⟨by omega, by omega, by omega⟩

theorem ref_reduce (x : Nat) (hx : x < 2 ^ 64) (m : Int) (hm : m ≤ 9223372036854775807) (w : World) :
    Calls Tryz.prog 77 #[.int .u64 (x : Int), .int .i64 m] w fun e w' => e = .returned (.int .i64 (redI x m : Int)) ∧ w = w' := by
  by_cases h : m < 1
  · have e : redI x m = 0 := by unfold redI; rw [if_pos h]
    rw [e]
    clear e
    go_enter Tryz.func77, Tryz.ntmps77
    go_wp2
    go_ret
    exact ⟨rfl, rfl⟩
  · obtain ⟨y, rfl⟩ := Int.eq_ofNat_of_zero_le (show 0 ≤ m by omega)
    have e : redI x (y : Int) = redN x y := by unfold redI; rw [if_neg h]; rfl
    rw [e]
    have hlt := redN_lt (m := y) hx (by omega)
    obtain ⟨h1, h2, h3⟩ := mul_halves x y hx (by omega)
    have b1 := bits_low x 32 hx (by decide)
    have b2 := bits_low y 32 (by omega) (by decide)
    have la : x / 2 ^ 32 ≤ 4294967295 := by omega
    have lb : x % 2 ^ 32 ≤ 4294967295 := by omega
    have lc : y / 2 ^ 32 ≤ 4294967295 := by omega
    have ld : y % 2 ^ 32 ≤ 4294967295 := by omega
    obtain ⟨a, ha⟩ : ∃ a, a = x / 2 ^ 32 := ⟨_, rfl⟩
    obtain ⟨b, hb⟩ : ∃ b, b = x % 2 ^ 32 := ⟨_, rfl⟩
    obtain ⟨c, hc⟩ : ∃ c, c = y / 2 ^ 32 := ⟨_, rfl⟩
    obtain ⟨d, hd⟩ : ∃ d, d = y % 2 ^ 32 := ⟨_, rfl⟩
    have eA : (x : Int) / 4294967296 = (a : Int) := by rw [ha]; simp
    have eB : bits .and .u64 (x : Int) 4294967295 = (b : Int) := by rw [hb]; exact b1
    have eC : (y : Int) / 4294967296 = (c : Int) := by rw [hc]; simp
    have eD : bits .and .u64 (y : Int) 4294967295 = (d : Int) := by rw [hd]; exact b2
    simp only [← ha, ← hb, ← hc, ← hd] at h1 h2 h3
    rw [← ha] at la
    rw [← hb] at lb
    rw [← hc] at lc
    rw [← hd] at ld
    have w1 := u64_nat (a * d) (Nat.lt_of_le_of_lt (Nat.mul_le_mul la ld) (by decide))
    have w2 := u64_nat (b * d) (Nat.lt_of_le_of_lt (Nat.mul_le_mul lb ld) (by decide))
    have w3 := u64_nat (b * c) (Nat.lt_of_le_of_lt (Nat.mul_le_mul lb lc) (by decide))
    have w4 := u64_nat (a * c) (Nat.lt_of_le_of_lt (Nat.mul_le_mul la lc) (by decide))
    have v1 : IntKind.u64.wrap ((a : Int) * (d : Int)) = ((a * d : Nat) : Int) := by rw [← Int.natCast_mul]; exact w1
    have v2 : IntKind.u64.wrap ((b : Int) * (d : Int)) = ((b * d : Nat) : Int) := by rw [← Int.natCast_mul]; exact w2
    have v3 : IntKind.u64.wrap ((b : Int) * (c : Int)) = ((b * c : Nat) : Int) := by rw [← Int.natCast_mul]; exact w3
    have v4 : IntKind.u64.wrap ((a : Int) * (c : Int)) = ((a * c : Nat) : Int) := by rw [← Int.natCast_mul]; exact w4
    have lQ : b * d ≤ 18446744065119617025 := Nat.le_trans (Nat.mul_le_mul lb ld) (by decide)
    clear w1 w2 w3 w4 b1 b2
    generalize a * d = P at *
    generalize b * d = Q at *
    generalize b * c = R at *
    generalize a * c = S at *
    obtain ⟨M, hM⟩ : ∃ M, M = P + Q / 2 ^ 32 := ⟨_, rfl⟩
    rw [← hM] at h1 h2 h3
    obtain ⟨L, hL⟩ : ∃ L, L = R + M % 2 ^ 32 := ⟨_, rfl⟩
    rw [← hL] at h2 h3
    have eM : IntKind.u64.wrap ((P : Int) + (Q : Int) / 4294967296) = (M : Int) := by rw [← u64_nat _ h1, hM]; simp
    have eM2 : bits .and .u64 (M : Int) 4294967295 = ((M % 2 ^ 32 : Nat) : Int) := bits_low _ 32 h1 (by decide)
    have eL : IntKind.u64.wrap ((R : Int) + ((M % 2 ^ 32 : Nat) : Int)) = (L : Int) := by rw [← u64_nat _ h2, hL]; simp
    have eS : IntKind.u64.wrap ((S : Int) + (M : Int) / 4294967296) = ((S + M / 2 ^ 32 : Nat) : Int) := by rw [← u64_nat (S + M / 2 ^ 32) (by omega)]; simp
    have eT : IntKind.u64.wrap (((S + M / 2 ^ 32 : Nat) : Int) + (L : Int) / 4294967296) = (redN x y : Int) := by rw [← u64_nat (redN x y) (by omega), ← h3]; simp
    generalize M % 2 ^ 32 = M2 at eM2 eL
    generalize S + M / 2 ^ 32 = T at eS eT
    have hr1 : 0 ≤ (redN x y : Int) := by omega
    have hr2 : (redN x y : Int) ≤ 9223372036854775807 := by omega
    generalize redN x y = r at eT hr1 hr2 ⊢
    clear h1 h2 h3 hL hM la lb lc ld ha hb hc hd hx lQ hlt e
    have hy : 1 ≤ y := by omega
    have hw := u64_nat y (by omega)
    go_enter Tryz.func77, Tryz.ntmps77
    go_wp2
    go_ret
    exact ⟨rfl, rfl⟩

/-- A slice of ints that can be read. -/
def RI (w : World) (v : Value) (l : List Nat) : Prop := ∃ A cap, v = .slice A l.length cap ∧ l.length ≤ 9223372036854775807 ∧ ∀ j, j < l.length → ∃ g, A = some ⟨g, 0, none⟩ ∧ w.cell? ⟨g, j, none⟩ = some (.int .i64 ((l.getD j 0 : Nat) : Int))
theorem RI.below {w w' : World} {v : Value} {l : List Nat} (h : RI w v l) (hb : Below w.heap.size w w') : RI w' v l := by
  obtain ⟨A, cap, rfl, h1, h2⟩ := h
  refine ⟨A, cap, rfl, h1, fun j hj => ?_⟩
  obtain ⟨g, rfl, hc⟩ := h2 j hj
  exact ⟨g, rfl, (hb.cell (World.block_lt_of_cell? w _ hc)).trans hc⟩
theorem RI.of_owns {w : World} {base : Nat} {e : TypeId} {v : Value} {n : Nat} {l : List Nat} (h : Owns w base e 1 v n (intsV l)) : RI w v l := by
  have hl : l.length = n := by have := h.1; simpa [intsV] using this
  subst hl
  obtain ⟨A, cap, rfl, h1, h2, h3⟩ := h.form
  refine ⟨A, cap, rfl, by unfold maxLen at h2; omega, fun j hj => ?_⟩
  obtain ⟨g, rfl, _, _, hc⟩ := h3 (by omega)
  exact ⟨g, rfl, (hc j (by omega)).trans (by simp [intsV, hj])⟩

def SameLoop (w : World) (n : Nat) (i : Value) (wr : World) : Prop := ∃ k : Nat, k ≤ n ∧ i = .int .i64 k ∧ Below w.heap.size w wr

theorem take_eq {l1 l2 : List Nat} (h : l1.length = l2.length) (k : Nat) (hk : k < l1.length) (he : l1.take k = l2.take k) : l1.take (k + 1) = l2.take (k + 1) ↔ l1.getD k 0 = l2.getD k 0 := by
  have h1 : l1.getD k 0 = l1[k] := by simp [hk]
  have h2 : l2.getD k 0 = l2[k]'(by omega) := by simp [show k < l2.length by omega]
  rw [h1, h2, List.take_succ_eq_append_getElem hk, List.take_succ_eq_append_getElem (show k < l2.length by omega), he, List.append_cancel_left_eq]; simp

def SameRel (w : World) (l1 l2 : List Nat) (i : Value) (wr : World) : Prop := ∃ k : Nat, k ≤ l1.length ∧ i = .int .i64 k ∧ l1.take k = l2.take k ∧ Below w.heap.size w wr

theorem ref_places (s : Nat) (hs : s < 2 ^ 64) (p : Pf) (hp : p.1.ok) (k m : Int) (hm : m ≤ 9223372036854775807) (w : World) :
    Calls Tryz.prog 49 #[.int .u64 (s : Int), .agg #[.int .u64 (p.1.1 : Int), .int .u64 (p.1.2 : Int), .int .i64 p.2], .int .i64 k, .int .i64 m] w fun e w' =>
      ∃ v, e = .returned v ∧ Owns w' w.heap.size 3 1 v (placesN s p k m).length (intsV (placesN s p k m)) ∧ Below w.heap.size w w' := by
  by_cases h : m < 1
  · have e : placesN s p k m = [] := by unfold placesN; rw [if_pos h]
    rw [e]
    clear e
    obtain ⟨⟨a, b⟩, n⟩ := p
    go_enter Tryz.func49, Tryz.ntmps49
    go_wp2
    go_ret
    exact ⟨_, rfl, Owns.nil _ _ _ _, (Below.refl _ _).alloc (Nat.le_refl _) _⟩
  · obtain ⟨N, hN⟩ : ∃ N : Nat, N = capK k := ⟨_, rfl⟩
    have e : placesN s p k m = placesOf s p N m := by unfold placesN; rw [if_neg h, hN]
    rw [e, placesOf_length]
    have hcap := fun w => ref_cap k 0 16 w
    rw [show (if k < 0 then 0 else if 16 < k then 16 else k) = (N : Int) from by unfold capK at hN; split <;> (try split) <;> omega] at hcap
    have c0 := hid hcap
    have hN16 : N ≤ 16 := by unfold capK at hN; omega
    clear hN e hcap
    have c1 := hid fun w => ref_hash s hs p hp w
    have c2 := hid fun w => ref_mix (hashN s p) w
    have e3 := bits_or (mixN (hashN s p)) 1 (mixN_lt _) (by decide)
    have c4 := hid fun i w => ref_reduce (stepN (hashN s p) (gN (hashN s p)) i) (stepN_lt _ _ _) m hm w
    have c5 := hid fun i => step_walk (hashN s p) (gN (hashN s p)) i
    have c6 := hid fun i => places_snoc s p i m
    have e3' : bits .or .u64 (mixN (hashN s p) : Int) 1 = (gN (hashN s p) : Int) := e3
    clear e3
    generalize gN (hashN s p) = g at e3' c4 c5 c6
    generalize mixN (hashN s p) = mx at c2 e3'
    generalize hashN s p = hh at c1 c2 c4 c5 c6
    have h' : 1 ≤ m := by omega
    obtain ⟨⟨a, b⟩, n⟩ := p
    go_enter Tryz.func49, Tryz.ntmps49
    go_wp2_with fail
    refine (c1.out _).mono ?_
    rintro _ w1 ⟨rfl, hb1⟩
    go_wp2_with fail
    refine (c2.out _).mono ?_
    rintro _ w2 ⟨rfl, rfl⟩
    have hB : Below w.heap.size w w1 := Below.trans (b := _) ((Below.refl _ _).alloc (Nat.le_refl _) _) (hb1.mono (by simp))
    have HB := hid hB
    clear hB hb1
    go_wp2_with fail
    go_loopw [11, 12] (fun v i wr => PlacesLoop w s ((a, b), n) N m v i wr) (fun _ i _ => N - (intOf i).toNat)
    case atStart => exact ⟨0, Nat.zero_le _, rfl, Owns.nil _ _ _ _, HB.out⟩
    case round =>
      obtain ⟨i, hi, rfl, hO, hB⟩ := hrel
      by_cases hlt : i < N
      · have e5 := c5.out i
        obtain ⟨A, cap, rfl, hnc, hcm, hform⟩ := hO.form
        have HF := hid hform
        clear hform
        have hs0 := hB.size
        go_wp2_with fail
        refine (c0.out _).mono ?_
        rintro _ w3 ⟨rfl, rfl⟩
        go_wp2_with fail
        refine (c4.out i _).mono ?_
        rintro _ w3 ⟨rfl, rfl⟩
        clear e5
        go_wp2_with (at_builtin; refine wpList_push rfl _ _ 69 rfl 3 (.int .i64 0) 1 8 Tryz.underlying69 int_row rfl (by decide) w.heap.size _ i _ rfl hO [.int .i64 _] rfl rfl ?c1 ?c2 ?c3 ?c4 ?_)
        case c1 => intro u hu; simp at hu; subst hu; rfl
        case c2 => unfold maxLen; omega
        case c3 => omega
        case c4 => exact hs0
        intro v' w4 hO4 hC4
        have hB4 := hB.trans (hC4.below hs0 (fun g hg k => by have := (hO.base_le g k).1; omega))
        clear hO hB hC4
        go_wp2_with fail
        go_roundw
        case rel => exact ⟨i + 1, by omega, by go_num, by rw [c6.out, intsV, List.map_append]; exact hO4, hB4⟩
        case measure => simp [intOf]; omega
      · obtain rfl : i = N := by omega
        have HO := hid hO
        have HB2 := hid hB
        clear hO hB
        go_wp2_with fail
        refine (c0.out _).mono ?_
        rintro _ w3 ⟨rfl, rfl⟩
        go_wp2_with fail
        go_ret
        exact ⟨_, rfl, HO.out, HB2.out⟩

theorem ref_buckets (s : Nat) (hs : s < 2 ^ 64) (p : Pf) (hp : p.1.ok) (n : Int) (hn : n ≤ 9223372036854775807) (w : World) :
    Calls Tryz.prog 42 #[.int .u64 (s : Int), .agg #[.int .u64 (p.1.1 : Int), .int .u64 (p.1.2 : Int), .int .i64 p.2], .int .i64 n] w fun e w' =>
      e = .returned (.tuple #[.int .i64 (redI (mixN (hashN s p ^^^ 1)) n : Int), .int .i64 (redI (mixN (hashN s p ^^^ 2)) n : Int)]) ∧ Below w.heap.size w w' := by
  have c1 := hid fun w => ref_hash s hs p hp w
  have c2 := hid fun w => ref_mix (hashN s p ^^^ 1) w
  have c3 := hid fun w => ref_mix (hashN s p ^^^ 2) w
  have c4 := hid fun w => ref_reduce (mixN (hashN s p ^^^ 1)) (mixN_lt _) n hn w
  have c5 := hid fun w => ref_reduce (mixN (hashN s p ^^^ 2)) (mixN_lt _) n hn w
  have e1 : bits .xor .u64 (hashN s p : Int) 1 = ((hashN s p ^^^ 1 : Nat) : Int) := bits_xor _ 1 (hashN_lt _ _) (by decide)
  have e2 : bits .xor .u64 (hashN s p : Int) 2 = ((hashN s p ^^^ 2 : Nat) : Int) := bits_xor _ 2 (hashN_lt _ _) (by decide)
  generalize redI (mixN (hashN s p ^^^ 1)) n = r1 at c4 ⊢
  generalize redI (mixN (hashN s p ^^^ 2)) n = r2 at c5 ⊢
  generalize mixN (hashN s p ^^^ 1) = x1 at c2 c4
  generalize mixN (hashN s p ^^^ 2) = x2 at c3 c5
  generalize hashN s p ^^^ 1 = y1 at c2 e1
  generalize hashN s p ^^^ 2 = y2 at c3 e2
  generalize hashN s p = hh at c1 e1 e2
  obtain ⟨⟨a, b⟩, m⟩ := p
  go_enter Tryz.func42, Tryz.ntmps42
  go_wp2_with fail
  refine (c1.out _).mono ?_
  rintro _ w1 ⟨rfl, hb1⟩
  have hB : Below w.heap.size w w1 := Below.trans (b := _) ((Below.refl _ _).alloc (Nat.le_refl _) _) (hb1.mono (by simp))
  have HB := hid hB
  clear hB hb1
  go_wp2_with (first
    | (with_reducible refine (c2.out _).mono ?_; rintro _ w2 ⟨rfl, rfl⟩)
    | (with_reducible refine (c3.out _).mono ?_; rintro _ w2 ⟨rfl, rfl⟩)
    | (with_reducible refine (c4.out _).mono ?_; rintro _ w2 ⟨rfl, rfl⟩)
    | (with_reducible refine (c5.out _).mono ?_; rintro _ w2 ⟨rfl, rfl⟩))
  go_ret2
  exact ⟨rfl, HB.out⟩


end Go.Proofs.YtpjjijhojcfmnaaGreat
