/-
  What chapter 18 promises, in plain lists: an address has a key of a level just if it has a route of its lengths, and then with the hop of the longest. No condition.
-/
import Derived.Test.YtcchjljdhjkmeaaCoverM
import Derived.Test.YtcchjljdhjkmeaaDeltaM2
namespace Go.Proofs.Ytcchjljdhjkmeaa
open Go.RowKit
set_option linter.unusedVariables false
set_option linter.unusedSimpArgs false

theorem bestT_congr {m : Ad → Nat → Option Int} {a b : Ad} {low : Int} : ∀ {K : Nat}, (∀ j, j < K → a.cut j = b.cut j) → bestT m a low K = bestT m b low K
  | 0, _ => rfl
  | K + 1, h => by
    unfold bestT
    rw [h K (by omega), bestT_congr (K := K) (fun j hj => h j (by omega))]
theorem key_in {l : List Rt} (hok : ∀ r ∈ l, r.1.1.ok) {a : Ad} (ha : a.ok) {low : Int} {high : Nat} (h1 : -1 ≤ low) (h2 : low < high) (h3 : high ≤ 128) (h4 : (high : Int) - low ≤ 8) :
    (a.cut high, (high : Int)) ∈ rawKeys (sortedL l) low high ↔ (bestT (ofM l) a low (high + 1)).isSome = true := by
  have hca := Ad.cut_ok ha high
  have hcc : ∀ j, j ≤ high → (a.cut high).cut j = a.cut j := fun j hj => by rw [Ad.cut_cut ha high j h3 (by omega), Nat.min_eq_right hj]
  constructor
  · intro h
    unfold rawKeys at h
    rw [List.mem_flatMap] at h
    obtain ⟨r, hr, hk⟩ := h
    obtain ⟨hr1, hr2⟩ := List.mem_filter.1 hr
    have hin := of_decide_eq_true hr2
    unfold keysP at hk
    split at hk
    · next hh =>
      obtain ⟨g1, g2, g3, g4⟩ := hh
      have hrok := hok r (sorted_mem hr1)
      have g0 := g1.1
      have gm : r.1.1.num % 2 ^ (128 - r.1.2.toNat) = 0 := (Ad.cut_self hrok _).1 g1.2.2
      unfold keysOf at hk
      rw [List.mem_map] at hk
      obtain ⟨i, hi, e⟩ := hk
      rw [Int.toNat_natCast] at hi e
      injection e with e1 e2
      have hle : r.1.2.toNat ≤ high := by omega
      have hhas := key_has hrok gm hle h3 (List.mem_range.1 hi)
      rw [e1] at hhas
      have hcut : a.cut r.1.2.toNat = r.1.1 := by
        have := hhas.2
        rw [Int.toNat_natCast, hcc _ hle] at this
        exact this
      cases hb : bestT (ofM l) a low (high + 1) with
      | some x => rfl
      | none =>
        have := bestT_all hb r.1.2.toNat (by omega) (by omega)
        rw [hcut] at this
        have hm := (sorted_says l r.1.1 r.1.2.toNat r.2).2 ⟨by rw [right_cast g1]; exact hr1, by rw [right_cast g1]; exact g1⟩
        rw [this] at hm; cases hm
    · simp at hk
  · intro h
    obtain ⟨⟨i, v⟩, hb⟩ := Option.isSome_iff_exists.1 h
    obtain ⟨b1, b2, b3⟩ := bestT_lt hb
    obtain ⟨s1, s2⟩ := (sorted_says l _ _ _).1 b3
    unfold rawKeys
    rw [List.mem_flatMap]
    refine ⟨((a.cut i, (i : Int)), v), List.mem_filter.2 ⟨s1, decide_eq_true ⟨b2, by show (i : Int) ≤ high; omega⟩⟩, ?_⟩
    unfold keysP
    rw [if_pos ⟨s2, by show (i : Int) ≤ high; omega, by omega, by show (high : Int) - (i : Int) ≤ 8; omega⟩]
    have hio := Ad.cut_ok ha i
    have hm : (a.cut i).num % 2 ^ (128 - i) = 0 := by
      have := s2.2.2
      rw [Int.toNat_natCast] at this
      exact (Ad.cut_self hio i).1 this
    have hhas : Pf.has (a.cut i, (i : Int)) (a.cut high) := ⟨s2, by show (a.cut high).cut (i : Int).toNat = a.cut i; rw [Int.toNat_natCast]; exact hcc i (by omega)⟩
    obtain ⟨t, ht, hj⟩ := key_of hio hca hm (show i ≤ high by omega) h3 hhas
    have hk := (hj t ht).2 rfl
    have e : keyAt (a.cut i) high t = a.cut high := by
      have h5 : (a.cut high).cut (high : Int).toNat = keyAt (a.cut i) high t := hk.2
      rw [Int.toNat_natCast, hcc high (Nat.le_refl _)] at h5
      exact h5.symm
    unfold keysOf
    rw [List.mem_map]
    exact ⟨t, by rw [Int.toNat_natCast]; exact List.mem_range.2 ht, by simp only [Int.toNat_natCast]; rw [e]⟩
/-- Of a level's set and of the routes: the same. -/
theorem cover_law {l : List Rt} (hok : ∀ r ∈ l, r.1.1.ok) {a : Ad} (ha : a.ok) {low : Int} {high : Nat} (h1 : -1 ≤ low) (h2 : low < high) (h3 : high ≤ 128) (h4 : (high : Int) - low ≤ 8) :
    (findI (setL l low high) (a.cut high, (high : Int)) = -1 ∧ longI (sortedL l) a low high = -1) ∨
    ∃ (i k : Nat) (x y : Rt), findI (setL l low high) (a.cut high, (high : Int)) = (i : Int) ∧ longI (sortedL l) a low high = (k : Int) ∧ (setL l low high)[i]? = some x ∧ (sortedL l)[k]? = some y ∧ x.2 = y.2 := by
  have hk := key_in hok ha h1 h2 h3 h4
  have hbt : btK (high : Int) = high + 1 := by unfold btK; omega
  have hcg : bestT (ofM l) (a.cut high) low (high + 1) = bestT (ofM l) a low (high + 1) := bestT_congr fun j hj => by rw [Ad.cut_cut ha high j h3 (by omega), Nat.min_eq_right (by omega)]
  have hlook : ∀ v, lookR (setL l low high) (a.cut high, (high : Int)) = some v ↔ ((a.cut high, (high : Int)) ∈ rawKeys (sortedL l) low high ∧ v = (atV (ofM l) (a.cut high, (high : Int)) low).getD 0) := by
    intro v
    rw [lookR_mem (set_ord l low high), set_has, List.mem_map]
    constructor
    · rintro ⟨k, hk1, e⟩
      unfold atH at e
      injection e with e1 e2
      subst e1
      exact ⟨hk1, e2.symm⟩
    · rintro ⟨hk1, e⟩
      exact ⟨_, hk1, by rw [e]; rfl⟩
  rcases long_says (sorted_says l) ha low (high : Int) with ⟨g1, g2⟩ | ⟨k, x, g1, g2, g3⟩
  · left
    rw [hbt] at g2
    refine ⟨(find_look _).1 ?_, g1⟩
    cases hl : lookR (setL l low high) (a.cut high, (high : Int)) with
    | none => rfl
    | some v =>
      have := hk.1 ((hlook v).1 hl).1
      rw [g2] at this; cases this
  · right
    rw [hbt] at g3
    have hmem := hk.2 (by rw [g3]; rfl)
    have hat : atV (ofM l) (a.cut high, (high : Int)) low = some x.2 := by
      unfold atV
      show (bestT (ofM l) (a.cut high) low (btK (high : Int))).map (·.2) = some x.2
      rw [hbt, hcg, g3]; rfl
    have hl := (hlook x.2).2 ⟨hmem, by rw [hat]; rfl⟩
    obtain ⟨i, hi, hi2⟩ := (find_look _).2 _ hl
    exact ⟨i, k, _, _, hi, g1, hi2, g2, by obtain ⟨i', h'⟩ := x; rfl⟩
end Go.Proofs.Ytcchjljdhjkmeaa
