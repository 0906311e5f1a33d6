/-
  Plain numbers: how many bits of a word are on, as Go's library counts them. No condition.
-/
import Derived.Test.YtpjjijhojcfmnaaGreatGBase
import Derived.Lib.BitFns
namespace Go.Proofs.YtpjjijhojcfmnaaGreat
open Go.RowKit
set_option linter.unusedVariables false
set_option linter.unusedSimpArgs false

abbrev pop (k x : Nat) : Nat := Lib.popAux k x
theorem pop_split (k x : Nat) : pop (8 + k) x = pop 8 x + pop k (x / 256) := by
  have e : 8 + k = k + 1 + 1 + 1 + 1 + 1 + 1 + 1 + 1 := by omega
  rw [e]
  simp only [pop, Lib.popAux, Nat.div_div_eq_div_mul, Nat.reduceMul]
  omega
theorem pop8_low (b x : Nat) (hb : b < 256) : pop 8 (b + 256 * x) = pop 8 b := by
  simp only [pop, Lib.popAux, Nat.div_div_eq_div_mul, Nat.reduceMul]
  rw [show (b + 256 * x) % 2 = b % 2 by omega, show (b + 256 * x) / 2 % 2 = b / 2 % 2 by omega, show (b + 256 * x) / 4 % 2 = b / 4 % 2 by omega, show (b + 256 * x) / 8 % 2 = b / 8 % 2 by omega,
    show (b + 256 * x) / 16 % 2 = b / 16 % 2 by omega, show (b + 256 * x) / 32 % 2 = b / 32 % 2 by omega, show (b + 256 * x) / 64 % 2 = b / 64 % 2 by omega, show (b + 256 * x) / 128 % 2 = b / 128 % 2 by omega]
/-- The bits, told otherwise: a word beside a list. -/
theorem pop_list (c : List Bool) : ∀ (m x s : Nat), (∀ t, t < m → x.testBit t = c.getD (s + t) false) → pop m x = ((c.drop s).take m).countP id := by
  intro m
  induction m with
  | zero => intro x s _; simp [pop, Lib.popAux]
  | succ m ih =>
    intro x s h
    have h0 := h 0 (by omega)
    have ih' := ih (x / 2) (s + 1) (fun t ht => by
      have := h (t + 1) (by omega)
      rw [show s + 1 + t = s + (t + 1) by omega, ← this, Nat.testBit_succ])
    simp only [pop] at ih'
    simp only [pop, Lib.popAux, ih']
    have e0 : x % 2 = (c.getD s false).toNat := by
      rw [Nat.add_zero] at h0; rw [← h0, Nat.testBit_zero]
      rcases Nat.mod_two_eq_zero_or_one x with h | h <;> simp [h]
    rw [e0]
    by_cases hs : s < c.length
    · rw [List.drop_eq_getElem_cons hs, List.take_succ_cons, List.countP_cons]
      have : c.getD s false = c[s] := by simp [hs]
      rw [this]; cases c[s] <;> simp <;> omega
    · rw [List.drop_eq_nil_of_le (by omega), List.drop_eq_nil_of_le (by omega)]
      have : c.getD s false = false := by simp [List.getD_eq_getElem?_getD, List.getElem?_eq_none (Nat.le_of_not_lt hs)]
      rw [this]; simp

/-- The steps over bytes. -/
theorem and_bytes (a A m M : Nat) (ha : a < 256) (hm : m < 256) : (a + 256 * A) &&& (m + 256 * M) = (a &&& m) + 256 * (A &&& M) := by
  have h1 : ((a + 256 * A) &&& (m + 256 * M)) % 2 ^ 8 = a &&& m := by
    rw [Nat.and_mod_two_pow]; congr 1 <;> omega
  have h2 : ((a + 256 * A) &&& (m + 256 * M)) / 2 ^ 8 = A &&& M := by
    rw [← Nat.shiftRight_eq_div_pow, Nat.shiftRight_and_distrib, Nat.shiftRight_eq_div_pow, Nat.shiftRight_eq_div_pow]
    congr 1 <;> omega
  omega
def g1 (a : Nat) : Nat := (a / 2 &&& 85) + (a &&& 85)
def g2 (a : Nat) : Nat := (a / 4 &&& 51) + (a &&& 51)
def g3 (a : Nat) : Nat := a / 16 + a % 16
theorem t1 : ∀ a : Fin 128, ∀ t : Fin 2, (a.val + 128 * t.val) &&& 85 = a.val &&& 85 := by decide +kernel
theorem t2 : ∀ a : Fin 64, ∀ t : Fin 4, (a.val + 64 * t.val) &&& 51 = a.val &&& 51 := by decide +kernel
theorem g_pop : ∀ b : Fin 256, g1 b.val < 256 ∧ g2 (g1 b.val) < 256 ∧ g2 (g1 b.val) / 16 ≤ 4 ∧ g2 (g1 b.val) % 16 ≤ 4 ∧ g3 (g2 (g1 b.val)) = Lib.popAux 8 b.val ∧ Lib.popAux 8 b.val ≤ 8 := by decide +kernel
def s1 (M A : Nat) : Nat := (A / 2 &&& M) + (A &&& M)
def s2 (M A : Nat) : Nat := (A / 4 &&& M) + (A &&& M)
def s3 (M A : Nat) : Nat := (A / 16 + A) &&& M
theorem s1_byte (a A M : Nat) (ha : a < 256) : s1 (85 + 256 * M) (a + 256 * A) = g1 a + 256 * s1 M A := by
  unfold s1 g1
  have e : (a + 256 * A) / 2 = (a / 2 + 128 * (A % 2)) + 256 * (A / 2) := by omega
  rw [e, and_bytes _ _ _ _ (by omega) (by decide), and_bytes _ _ _ _ ha (by decide)]
  have := t1 ⟨a / 2, by omega⟩ ⟨A % 2, by omega⟩
  simp only at this; rw [this]; omega
theorem s2_byte (a A M : Nat) (ha : a < 256) : s2 (51 + 256 * M) (a + 256 * A) = g2 a + 256 * s2 M A := by
  unfold s2 g2
  have e : (a + 256 * A) / 4 = (a / 4 + 64 * (A % 4)) + 256 * (A / 4) := by omega
  rw [e, and_bytes _ _ _ _ (by omega) (by decide), and_bytes _ _ _ _ ha (by decide)]
  have := t2 ⟨a / 4, by omega⟩ ⟨A % 4, by omega⟩
  simp only at this; rw [this]; omega
theorem low4 (x : Nat) (h : x < 256) : x &&& 15 = x % 16 := by
  have := Nat.and_two_pow_sub_one_eq_mod x 4; simpa using this
theorem s3_byte (a A M : Nat) (ha : a / 16 ≤ 4) (ha' : a % 16 ≤ 4) (hA : A % 16 ≤ 4) : s3 (15 + 256 * M) (a + 256 * A) = g3 a + 256 * s3 M A := by
  unfold s3 g3
  have e : (a + 256 * A) / 16 + (a + 256 * A) = (a / 16 + 16 * (A % 16) + a) + 256 * (A / 16 + A) := by omega
  rw [e, and_bytes _ _ _ _ (by omega) (by decide), low4 _ (by omega)]
  omega
/-- So many bytes of a number, the lowest first. -/
def rep1 : Nat → Nat | 0 => 0 | k + 1 => 85 + 256 * rep1 k
def rep2 : Nat → Nat | 0 => 0 | k + 1 => 51 + 256 * rep2 k
def rep3 : Nat → Nat | 0 => 0 | k + 1 => 15 + 256 * rep3 k
/-- The sum of the bytes' counts as bytes. -/
def mapB (f : Nat → Nat) : Nat → Nat → Nat
  | 0, _ => 0
  | k + 1, x => f (x % 256) + 256 * mapB f k (x / 256)
def G (b : Nat) : Nat := g3 (g2 (g1 b))
theorem steps_bytes : ∀ (k x : Nat), x < 256 ^ k → s1 (rep1 k) x = mapB g1 k x ∧ s2 (rep2 k) (mapB g1 k x) = mapB (fun b => g2 (g1 b)) k x ∧ s3 (rep3 k) (mapB (fun b => g2 (g1 b)) k x) = mapB G k x ∧ mapB (fun b => g2 (g1 b)) k x % 16 ≤ 4
  | 0, x, h => by
    have : x = 0 := by simpa using h
    subst this; decide
  | k + 1, x, h => by
    have hx : x / 256 < 256 ^ k := by rw [Nat.div_lt_iff_lt_mul (by decide)]; rw [Nat.pow_succ] at h; exact h
    obtain ⟨i1, i2, i3, i4⟩ := steps_bytes k (x / 256) hx
    have hb := g_pop ⟨x % 256, Nat.mod_lt _ (by decide)⟩
    simp only at hb
    obtain ⟨b1, b2, b3, b4, b5, b6⟩ := hb
    have ex : x = x % 256 + 256 * (x / 256) := by omega
    refine ⟨?_, ?_, ?_, ?_⟩
    · conv => lhs; rw [ex]
      show s1 (85 + 256 * rep1 k) _ = _
      rw [s1_byte _ _ _ (Nat.mod_lt _ (by decide)), i1]; rfl
    · show s2 (51 + 256 * rep2 k) (g1 (x % 256) + 256 * mapB g1 k (x / 256)) = _
      rw [s2_byte _ _ _ b1, i2]; rfl
    · show s3 (15 + 256 * rep3 k) (g2 (g1 (x % 256)) + 256 * mapB (fun b => g2 (g1 b)) k (x / 256)) = _
      rw [s3_byte _ _ _ b3 b4 i4, i3]; rfl
    · show (g2 (g1 (x % 256)) + 256 * _) % 16 ≤ 4
      omega
/-- What the last three steps make of it. -/
theorem fold_bytes (x : Nat) : mapB G 8 x < 2 ^ 64 ∧ mapB G 8 x + mapB G 8 x / 2 ^ 8 < 2 ^ 64 ∧ (mapB G 8 x + mapB G 8 x / 2 ^ 8) + (mapB G 8 x + mapB G 8 x / 2 ^ 8) / 2 ^ 16 < 2 ^ 64 ∧
    ((mapB G 8 x + mapB G 8 x / 2 ^ 8) + (mapB G 8 x + mapB G 8 x / 2 ^ 8) / 2 ^ 16) + ((mapB G 8 x + mapB G 8 x / 2 ^ 8) + (mapB G 8 x + mapB G 8 x / 2 ^ 8) / 2 ^ 16) / 2 ^ 32 < 2 ^ 64 ∧
    (((mapB G 8 x + mapB G 8 x / 2 ^ 8) + (mapB G 8 x + mapB G 8 x / 2 ^ 8) / 2 ^ 16) + ((mapB G 8 x + mapB G 8 x / 2 ^ 8) + (mapB G 8 x + mapB G 8 x / 2 ^ 8) / 2 ^ 16) / 2 ^ 32) % 128 = pop 64 x ∧ pop 64 x ≤ 64 := by
  have hb : ∀ b, b < 256 → G b = Lib.popAux 8 b ∧ Lib.popAux 8 b ≤ 8 := fun b h => ⟨(g_pop ⟨b, h⟩).2.2.2.2.1, (g_pop ⟨b, h⟩).2.2.2.2.2⟩
  have hp : ∀ y, pop 8 y = pop 8 (y % 256) := fun y => by
    have := pop8_low (y % 256) (y / 256) (Nat.mod_lt _ (by decide))
    rwa [show y % 256 + 256 * (y / 256) = y by omega] at this
  have e : pop 64 x = pop 8 (x % 256) + (pop 8 (x / 256 % 256) + (pop 8 (x / 256 / 256 % 256) + (pop 8 (x / 256 / 256 / 256 % 256) + (pop 8 (x / 256 / 256 / 256 / 256 % 256) + (pop 8 (x / 256 / 256 / 256 / 256 / 256 % 256) + (pop 8 (x / 256 / 256 / 256 / 256 / 256 / 256 % 256) + pop 8 (x / 256 / 256 / 256 / 256 / 256 / 256 / 256 % 256))))))) := by
    rw [show 64 = 8 + 56 from rfl, pop_split, show 56 = 8 + 48 from rfl, pop_split, show 48 = 8 + 40 from rfl, pop_split, show 40 = 8 + 32 from rfl, pop_split, show 32 = 8 + 24 from rfl, pop_split, show 24 = 8 + 16 from rfl, pop_split, show 16 = 8 + 8 from rfl, pop_split]
    rw [hp x, hp (x / 256), hp (x / 256 / 256), hp (x / 256 / 256 / 256), hp (x / 256 / 256 / 256 / 256), hp (x / 256 / 256 / 256 / 256 / 256), hp (x / 256 / 256 / 256 / 256 / 256 / 256), hp (x / 256 / 256 / 256 / 256 / 256 / 256 / 256)]
  simp only [mapB]
  rw [e]
  have k : ∀ y, G (y % 256) = pop 8 (y % 256) ∧ pop 8 (y % 256) ≤ 8 := fun y => hb _ (Nat.mod_lt _ (by decide))
  rw [(k x).1, (k (x / 256)).1, (k (x / 256 / 256)).1, (k (x / 256 / 256 / 256)).1, (k (x / 256 / 256 / 256 / 256)).1, (k (x / 256 / 256 / 256 / 256 / 256)).1, (k (x / 256 / 256 / 256 / 256 / 256 / 256)).1, (k (x / 256 / 256 / 256 / 256 / 256 / 256 / 256)).1]
  have l0 := (k x).2
  have l1 := (k (x / 256)).2
  have l2 := (k (x / 256 / 256)).2
  have l3 := (k (x / 256 / 256 / 256)).2
  have l4 := (k (x / 256 / 256 / 256 / 256)).2
  have l5 := (k (x / 256 / 256 / 256 / 256 / 256)).2
  have l6 := (k (x / 256 / 256 / 256 / 256 / 256 / 256)).2
  have l7 := (k (x / 256 / 256 / 256 / 256 / 256 / 256 / 256)).2
  generalize pop 8 (x % 256) = p0 at *
  generalize pop 8 (x / 256 % 256) = p1 at *
  generalize pop 8 (x / 256 / 256 % 256) = p2 at *
  generalize pop 8 (x / 256 / 256 / 256 % 256) = p3 at *
  generalize pop 8 (x / 256 / 256 / 256 / 256 % 256) = p4 at *
  generalize pop 8 (x / 256 / 256 / 256 / 256 / 256 % 256) = p5 at *
  generalize pop 8 (x / 256 / 256 / 256 / 256 / 256 / 256 % 256) = p6 at *
  generalize pop 8 (x / 256 / 256 / 256 / 256 / 256 / 256 / 256 % 256) = p7 at *
  clear e hb hp k
  obtain ⟨Y, hY⟩ : ∃ Y, Y = p0 + 256 * (p1 + 256 * (p2 + 256 * (p3 + 256 * (p4 + 256 * (p5 + 256 * (p6 + 256 * (p7 + 256 * 0))))))) := ⟨_, rfl⟩
  rw [← hY]
  obtain ⟨Z, hZ⟩ : ∃ Z, Z = Y + Y / 2 ^ 8 := ⟨_, rfl⟩
  have hZ' : Z = (p0 + p1) + 256 * ((p1 + p2) + 256 * ((p2 + p3) + 256 * ((p3 + p4) + 256 * ((p4 + p5) + 256 * ((p5 + p6) + 256 * ((p6 + p7) + 256 * p7)))))) := by
    have : Y / 2 ^ 8 = p1 + 256 * (p2 + 256 * (p3 + 256 * (p4 + 256 * (p5 + 256 * (p6 + 256 * p7))))) := by omega
    rw [hZ, this, hY]; omega
  rw [← hZ]
  obtain ⟨V, hV⟩ : ∃ V, V = Z + Z / 2 ^ 16 := ⟨_, rfl⟩
  have hV' : V = (p0 + p1 + p2 + p3) + 256 * ((p1 + p2 + p3 + p4) + 256 * ((p2 + p3 + p4 + p5) + 256 * ((p3 + p4 + p5 + p6) + 256 * ((p4 + p5 + p6 + p7) + 256 * ((p5 + p6 + p7) + 256 * ((p6 + p7) + 256 * p7)))))) := by
    have : Z / 2 ^ 16 = (p2 + p3) + 256 * ((p3 + p4) + 256 * ((p4 + p5) + 256 * ((p5 + p6) + 256 * ((p6 + p7) + 256 * p7)))) := by omega
    rw [hV, this, hZ']; omega
  rw [← hV]
  have hW : V / 2 ^ 32 = (p4 + p5 + p6 + p7) + 256 * ((p5 + p6 + p7) + 256 * ((p6 + p7) + 256 * p7)) := by omega
  rw [hW]
  clear hW hV hZ
  refine ⟨by omega, by omega, by omega, by omega, ?_, by omega⟩
  rw [hV']; omega
end Go.Proofs.YtpjjijhojcfmnaaGreat
