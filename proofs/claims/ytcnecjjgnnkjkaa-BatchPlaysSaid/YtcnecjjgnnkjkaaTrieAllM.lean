/-
  All routes of a trie below a node, in plain lists: a row in order, cut into what stands at the node and what stands below its two children. No condition.
-/
import Derived.Test.YtcnecjjgnnkjkaaSorted
import Derived.Test.YtcnecjjgnnkjkaaSpreadM
import Derived.Test.YtcnecjjgnnkjkaaDeltaM2
namespace Go.Proofs.Ytcnecjjgnnkjkaa
open Go.RowKit
set_option linter.unusedVariables false
set_option linter.unusedSimpArgs false

def belowB (c : Ad) (i : Nat) (r : Rt) : Prop := r.1.right ∧ (i : Int) ≤ r.1.2 ∧ r.1.1.cut i = c
instance (c : Ad) (i : Nat) (r : Rt) : Decidable (belowB c i r) := by unfold belowB; infer_instance
/-- What of a row stands at or below a prefix. -/
def underL (l : List Rt) (c : Ad) (i : Nat) : List Rt := l.filter fun r => decide (belowB c i r)
def hereL (m : Ad → Nat → Option Int) (c : Ad) (i : Nat) : List Rt := match m c i with | some v => [((c, (i : Int)), v)] | none => []
theorem mem_under {l : List Rt} {c : Ad} {i : Nat} {r : Rt} : r ∈ underL l c i ↔ r ∈ l ∧ belowB c i r := by unfold underL; rw [List.mem_filter]; simp
theorem under_SL {l : List Rt} (h : SL l) (c : Ad) (i : Nat) : SL (underL l c i) := h.filter _
theorem mem_here {m : Ad → Nat → Option Int} {c : Ad} {i : Nat} {r : Rt} : r ∈ hereL m c i ↔ r.1 = (c, (i : Int)) ∧ m c i = some r.2 := by
  unfold hereL
  cases h : m c i with
  | none => simp
  | some v =>
    obtain ⟨p, u⟩ := r
    rw [List.mem_singleton]
    constructor
    · intro e; injection e with e1 e2; exact ⟨e1, by rw [e2]⟩
    · rintro ⟨e1, e2⟩; injection e2 with e2; simp only at e1 e2; rw [e1, e2]
theorem here_SL (m : Ad → Nat → Option Int) (c : Ad) (i : Nat) : SL (hereL m c i) := by
  unfold hereL
  cases m c i with
  | none => exact .nil
  | some v => exact List.pairwise_singleton ..
theorem cut_mod {a : Ad} (ha : a.ok) (n : Nat) : (a.cut n).num ≤ a.num ∧ a.num < (a.cut n).num + 2 ^ (128 - n) := by
  rw [Ad.cut_num ha]
  unfold cutN
  have := Nat.div_add_mod a.num (2 ^ (128 - n))
  have h2 := Nat.mod_lt a.num (Nat.two_pow_pos (128 - n))
  rw [Nat.mul_comm] at this
  omega
theorem kok_mod {c : Ad} {i : Nat} (h : Kok c i) : c.num % 2 ^ (128 - i) = 0 := (Ad.cut_self h.1 i).1 h.2.1
theorem here_below {m : Ad → Nat → Option Int} {c : Ad} {i : Nat} (hk : Kok c i) : Pf.right (c, (i : Int)) ∧ c.cut i = c := ⟨⟨by omega, by have := hk.2.2; show (i : Int) ≤ 128; omega, by rw [Int.toNat_natCast]; exact hk.2.1⟩, hk.2.1⟩
section
variable {l : List Rt} {m : Ad → Nat → Option Int} {c : Ad} {i : Nat}
theorem under_leaf (hs : SL l) (hsay : Says m l) (hok : ∀ r ∈ l, r.1.1.ok) (hk : Kok c 128) : underL l c 128 = hereL m c 128 := by
  refine ord_unique (under_SL hs _ _) (here_SL _ _ _) fun r => ?_
  obtain ⟨⟨a, n⟩, v⟩ := r
  rw [mem_under, mem_here]
  constructor
  · rintro ⟨h1, h2, h3, h4⟩
    have hn : n = 128 := by have := h2.2.1; simp only at h3 this; omega
    subst hn
    have hc : a = c := by rw [← h4]; exact h2.2.2.symm
    subst hc
    exact ⟨rfl, (hsay a 128 v).2 ⟨h1, h2⟩⟩
  · rintro ⟨h1, h2⟩
    injection h1 with h1 h3
    subst h1 h3
    have h := (hsay a 128 v).1 h2
    exact ⟨h.1, h.2, Int.le_refl _, hk.2.1⟩
theorem under_node (hs : SL l) (hsay : Says m l) (hok : ∀ r ∈ l, r.1.1.ok) (hk : Kok c i) (hi : i < 128) : underL l c i = hereL m c i ++ (underL l c (i + 1) ++ underL l (c.with i) (i + 1)) := by
  have hw := Ad.with_num hk.1 i hi (kok_mod hk)
  have hlt : c.num + 2 ^ (127 - i) < 2 ^ 128 := by
    have h1 := cut_mod (a := c.with i) (Ad.with_ok hk.1 i) 0
    have h2 := Ad.num_lt (Ad.with_ok hk.1 i)
    have h3 := kok_mod hk
    have h4 := Ad.num_lt hk.1
    have e : 2 ^ 128 = 2 ^ i * 2 ^ (128 - i) := by rw [← Nat.pow_add]; congr 1; omega
    have e2 : 2 ^ (128 - i) = 2 * 2 ^ (127 - i) := by rw [show 128 - i = (127 - i) + 1 by omega, Nat.pow_succ]; omega
    have h5 := Nat.div_add_mod c.num (2 ^ (128 - i))
    rw [h3, Nat.add_zero] at h5
    have h6 : c.num / 2 ^ (128 - i) < 2 ^ i := by
      rw [Nat.div_lt_iff_lt_mul (Nat.two_pow_pos _), ← e]; exact h4
    have h7 : 2 ^ (128 - i) * (c.num / 2 ^ (128 - i)) + 2 ^ (128 - i) ≤ 2 ^ 128 := by
      rw [e, Nat.mul_comm (2 ^ i), ← Nat.mul_succ]
      exact Nat.mul_le_mul_left _ h6
    have h8 := Nat.two_pow_pos (127 - i)
    omega
  have hwn : (c.with i).num = c.num + 2 ^ (127 - i) := by rw [hw, Ad.of_num]
  have e2 : 2 ^ (128 - (i + 1)) = 2 ^ (127 - i) := by congr 1; omega
  refine ord_unique (under_SL hs _ _) ?_ fun r => ?_
  · refine List.pairwise_append.2 ⟨here_SL _ _ _, List.pairwise_append.2 ⟨under_SL hs _ _, under_SL hs _ _, fun x hx y hy => ?_⟩, fun x hx y hy => ?_⟩
    · obtain ⟨x1, x2, x3, x4⟩ := mem_under.1 hx
      obtain ⟨y1, y2, y3, y4⟩ := mem_under.1 hy
      refine pf_lt_num (hok x x1) (hok y y1) ?_
      have k1 := cut_mod (hok x x1) (i + 1)
      have k2 := cut_mod (hok y y1) (i + 1)
      rw [x4, e2] at k1
      rw [y4, hwn] at k2
      omega
    · obtain ⟨x1, x2⟩ := mem_here.1 hx
      rw [x1]
      have hup : ∀ y ∈ l, y.1.right → ((i + 1 : Nat) : Int) ≤ y.1.2 → (y.1.1.cut i = c) → Pf.lt (c, (i : Int)) y.1 := by
        intro y hy hr hle hc
        refine pf_has_lt ⟨(here_below (m := m) hk).1, by rw [Int.toNat_natCast]; exact hc⟩ ?_
        show (i : Int) < y.1.2
        omega
      rcases List.mem_append.1 hy with hy | hy
      · obtain ⟨y1, y2, y3, y4⟩ := mem_under.1 hy
        refine hup y y1 y2 y3 ?_
        have := congrArg (Ad.cut · i) y4
        simp only [Ad.cut_cut (hok y y1) (i + 1) i (by omega) (by omega), Nat.min_eq_right (Nat.le_succ i)] at this
        rw [this]; exact hk.2.1
      · obtain ⟨y1, y2, y3, y4⟩ := mem_under.1 hy
        refine hup y y1 y2 y3 ?_
        have := congrArg (Ad.cut · i) y4
        simp only [Ad.cut_cut (hok y y1) (i + 1) i (by omega) (by omega), Nat.min_eq_right (Nat.le_succ i)] at this
        rw [this]; exact with_cut hk hi
  · rw [List.mem_append, List.mem_append, mem_here, mem_under, mem_under, mem_under]
    obtain ⟨⟨a, n⟩, v⟩ := r
    constructor
    · rintro ⟨h1, h2, h3, h4⟩
      have ha := hok _ h1
      simp only at h3 h4 ha
      by_cases hn : n = (i : Int)
      · left
        subst hn
        have hc : a = c := by rw [← h4]; have := h2.2.2; rw [Int.toNat_natCast] at this; exact this.symm
        subst hc
        exact ⟨rfl, (hsay a i v).2 ⟨h1, h2⟩⟩
      · right
        have hk1 := kid_cut a ha i hi
        rw [h4] at hk1
        unfold kid at hk1
        by_cases hb : a.bit i = 1
        · rw [if_pos hb] at hk1; exact .inr ⟨h1, h2, by show ((i + 1 : Nat) : Int) ≤ n; omega, hk1⟩
        · rw [if_neg hb] at hk1; exact .inl ⟨h1, h2, by show ((i + 1 : Nat) : Int) ≤ n; omega, hk1⟩
    · rintro (⟨h1, h2⟩ | ⟨h1, h2, h3, h4⟩ | ⟨h1, h2, h3, h4⟩)
      · injection h1 with h1 h3
        subst h1 h3
        have h := (hsay a i v).1 h2
        exact ⟨h.1, h.2, Int.le_refl _, hk.2.1⟩
      · have ha := hok _ h1
        refine ⟨h1, h2, by simp only at h3 ⊢; omega, ?_⟩
        have := congrArg (Ad.cut · i) h4
        simp only [Ad.cut_cut ha (i + 1) i (by omega) (by omega), Nat.min_eq_right (Nat.le_succ i)] at this
        show a.cut i = c
        rw [this]; exact hk.2.1
      · have ha := hok _ h1
        refine ⟨h1, h2, by simp only at h3 ⊢; omega, ?_⟩
        have := congrArg (Ad.cut · i) h4
        simp only [Ad.cut_cut ha (i + 1) i (by omega) (by omega), Nat.min_eq_right (Nat.le_succ i)] at this
        show a.cut i = c
        rw [this]; exact with_cut hk hi
theorem under_none {w : World} {g : Nat} {F : Nat → Prop} {N : Ad → Nat → Option Nat} {n : Int} (H : TrieN w g F N m n) (hsay : Says m l) (hok : ∀ r ∈ l, r.1.1.ok) (hN : N c i = none) : underL l c i = [] := by
  rw [List.eq_nil_iff_forall_not_mem]
  intro r hr
  obtain ⟨h1, h2, h3, h4⟩ := mem_under.1 hr
  obtain ⟨⟨a, k⟩, v⟩ := r
  have ha := hok _ h1
  simp only at h3 h4 ha
  obtain ⟨k, rfl⟩ := Int.eq_ofNat_of_zero_le h2.1
  have hk128 : k ≤ 128 := by have := h2.2.1; simp only at this; omega
  have hcut : a.cut k = a := by have := h2.2.2; simpa using this
  have hm := (hsay a k v).2 ⟨h1, h2⟩
  rw [← h4] at hN
  have := H.none_below ha hN k (by omega) hk128
  rw [hcut] at this
  rw [H.val a k ⟨ha, hcut, hk128⟩ this] at hm
  cases hm
theorem under_root (hok : ∀ r ∈ l, r.1.1.ok) : underL l (0, 0) 0 = l.filter fun r => decide r.1.right := by
  unfold underL
  apply List.filter_congr
  intro r hr
  unfold belowB
  have h0 := cut_none (hok r hr)
  by_cases h : r.1.right
  · have := h.1
    simp [h, h0, this]
  · simp [h]
end
end Go.Proofs.Ytcnecjjgnnkjkaa
