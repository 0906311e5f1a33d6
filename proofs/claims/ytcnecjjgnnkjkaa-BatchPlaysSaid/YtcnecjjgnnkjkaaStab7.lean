/-
  Sorting routes stably, as the library does: blocks of twenty, then pairs of blocks. No condition but that there are no more than a thousand million routes.
-/
import Derived.Test.YtcnecjjgnnkjkaaStab6
namespace Go.Proofs.Ytcnecjjgnnkjkaa
open Go.RowKit
set_option linter.unusedVariables false
set_option linter.unusedSimpArgs false
set_option maxRecDepth 100000

def Tags (L : List Tg) : Prop := L.Pairwise (fun x y => x.2 < y.2)
theorem Tags.ahead {L : List Tg} (h : Tags L) (a : Nat) : Ahead (L.take a) (L.drop a) := by
  have := List.pairwise_append.1 (by rw [List.take_append_drop]; exact h : (L.take a ++ L.drop a).Pairwise (fun x y => x.2 < y.2))
  exact this.2.2
theorem Ahead.sub {D R R' : List Tg} (h : Ahead D R) (hr : ∀ x ∈ R', x ∈ R) : Ahead D R' := fun x hx y hy => h x hx y (hr y hy)
theorem Ahead.app {D E R : List Tg} (h : Ahead D R) (k : Ahead E R) : Ahead (D ++ E) R := fun x hx y hy => by
  rcases List.mem_append.1 hx with hx | hx
  · exact h x hx y hy
  · exact k x hx y hy
structure St1 (L : List Tg) (a : Nat) (D : List Tg) : Prop where
  len : D.length = a
  al : a ≤ L.length
  good : Good 20 D
  perm : D.Perm (L.take a)
  q : ∃ q, a = 20 * q
theorem St1.step {L D U : List Tg} {a : Nat} (h : St1 L a D) (hL : Tags L) (hu : U.Perm ((L.drop a).take 20)) (hs : U.Pairwise tl) (ha : a + 20 ≤ L.length) : St1 L (a + 20) (D ++ U) := by
  obtain ⟨q, hq⟩ := h.q
  have hul : U.length = 20 := by rw [hu.length_eq, List.length_take, List.length_drop]; omega
  refine ⟨by rw [List.length_append, h.len, hul], ha, Good.app (by decide) h.good (Good.of hs (by omega)) (by rw [h.len]; exact hq) ?_, ?_, q + 1, by omega⟩
  · exact ((hL.ahead a).sub (fun x hx => List.mem_of_mem_take hx)).perm h.perm hu
  · rw [List.take_add]; exact h.perm.append hu
theorem St1.fin {L D U : List Tg} {a : Nat} (h : St1 L a D) (hL : Tags L) (hu : U.Perm (L.drop a)) (hs : U.Pairwise tl) (ha : L.length < a + 20) : Good 20 (D ++ U) ∧ (D ++ U).Perm L := by
  obtain ⟨q, hq⟩ := h.q
  have hul : U.length = L.length - a := by rw [hu.length_eq, List.length_drop]
  refine ⟨Good.app (by decide) h.good (Good.of hs (by omega)) (by rw [h.len]; exact hq) ((hL.ahead a).perm h.perm hu), ?_⟩
  have := h.perm.append hu
  rwa [List.take_append_drop] at this
structure St3 (L : List Tg) (k a : Nat) (D R : List Tg) : Prop where
  len : D.length = a
  q : ∃ q, a = 2 * k * q
  good : Good (2 * k) D
  goodr : Good k R
  ahead : Ahead D R
  perm : (D ++ R).Perm L
theorem St3.len2 {L D R : List Tg} {k a : Nat} (h : St3 L k a D R) : a + R.length = L.length := by
  have := h.perm.length_eq
  rw [List.length_append, h.len] at this; exact this
theorem St3.parts {L D R : List Tg} {k a : Nat} (h : St3 L k a D R) (hk : 0 < k) : (R.take k).Pairwise tl ∧ ((R.drop k).take k).Pairwise tl ∧ CrossT (R.take k) ((R.drop k).take k) ∧ Good k (R.drop (2 * k)) ∧ Ahead (R.take k ++ (R.drop k).take k) (R.drop (2 * k)) := by
  obtain ⟨p1, p2, p3⟩ := Good.parts hk h.goodr
  obtain ⟨r1, r2, r3⟩ := Good.parts hk p2
  rw [List.drop_drop, show k + k = 2 * k by omega] at r2 r3
  exact ⟨p1, r1, (p3.sub (fun x hx => List.mem_of_mem_take hx)).cross, r2, (p3.sub (fun x hx => by
    have : R.drop (2 * k) = (R.drop k).drop k := by rw [List.drop_drop]; congr 1; omega
    rw [this] at hx; exact List.mem_of_mem_drop hx)).app r3⟩
theorem St3.step {L D R U : List Tg} {k a : Nat} (h : St3 L k a D R) (hk : 0 < k) (hu : U.Perm (R.take k ++ (R.drop k).take k)) (hs : U.Pairwise tl) (hr : 2 * k ≤ R.length) : St3 L k (a + 2 * k) (D ++ U) (R.drop (2 * k)) := by
  obtain ⟨q, hq⟩ := h.q
  obtain ⟨_, _, _, g, ah⟩ := h.parts hk
  have e : R.take k ++ (R.drop k).take k = R.take (2 * k) := by rw [show 2 * k = k + k by omega, List.take_add]
  have hul : U.length = 2 * k := by rw [hu.length_eq, e, List.length_take]; omega
  refine ⟨by rw [List.length_append, h.len, hul], ⟨q + 1, by rw [hq, Nat.mul_add]; omega⟩, Good.app (by omega) h.good (Good.of hs (by omega)) (by rw [h.len]; exact hq) ?_, g, ?_, ?_⟩
  · exact (h.ahead.sub (fun x hx => by rw [e] at hx; exact List.mem_of_mem_take hx)).perm (List.Perm.refl _) hu
  · exact (h.ahead.sub (fun x hx => List.mem_of_mem_drop hx)).app (ah.perm hu (List.Perm.refl _))
  · refine List.Perm.trans ?_ h.perm
    rw [List.append_assoc]
    refine List.Perm.append_left D ?_
    have h1 := hu.append_right (R.drop (2 * k))
    rw [e, List.take_append_drop] at h1
    exact h1
theorem St3.fin {L D R U : List Tg} {k a : Nat} (h : St3 L k a D R) (hk : 0 < k) (hu : U.Perm R) (hs : U.Pairwise tl) (hr : R.length ≤ 2 * k) : Good (2 * k) (D ++ U) ∧ (D ++ U).Perm L := by
  obtain ⟨q, hq⟩ := h.q
  have hul : U.length = R.length := hu.length_eq
  exact ⟨Good.app (by omega) h.good (Good.of hs (by omega)) (by rw [h.len]; exact hq) (h.ahead.perm (List.Perm.refl _) hu), (List.Perm.append_left D hu).trans h.perm⟩

def Sb1 (g : Nat) (Z : List Value) (L : List Tg) (w0 : World) (av bv : Value) (wr : World) : Prop :=
  ∃ (a b : Nat) (D : List Tg), av = .int .i64 a ∧ bv = .int .i64 b ∧ b = a + 20 ∧ St1 L a D ∧ RowT wr g (D ++ L.drop a) Z ∧ Chg (· = g) w0 wr
def Sb2 (g : Nat) (Z : List Value) (L : List Tg) (w0 : World) (kv av bv : Value) (wr : World) : Prop :=
  ∃ (k : Nat) (D : List Tg), kv = .int .i64 k ∧ 0 < k ∧ k ≤ 4000000000 ∧ Good k D ∧ D.Perm L ∧ RowT wr g D Z ∧ Chg (· = g) w0 wr
def Sb3 (g : Nat) (Z : List Value) (L : List Tg) (k : Nat) (w0 : World) (av bv : Value) (wr : World) : Prop :=
  ∃ (a b : Nat) (D R : List Tg), av = .int .i64 a ∧ bv = .int .i64 b ∧ b = a + 2 * k ∧ St3 L k a D R ∧ RowT wr g (D ++ R) Z ∧ Chg (· = g) w0 wr
end Go.Proofs.Ytcnecjjgnnkjkaa
