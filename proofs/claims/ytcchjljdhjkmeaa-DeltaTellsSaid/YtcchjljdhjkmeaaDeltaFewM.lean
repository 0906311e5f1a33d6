/-
  What turns in a level when a route comes, or goes: nothing but keys that it has, and few of them. Plain lists. No condition.
-/
import Derived.Test.YtcchjljdhjkmeaaDeltaLevel
import Derived.Test.YtcchjljdhjkmeaaCoverLawM
namespace Go.Proofs.Ytcchjljdhjkmeaa
open Go.RowKit
set_option linter.unusedVariables false
set_option linter.unusedSimpArgs false

theorem last_without (l : List Rt) (p : Pf) (x : Rt) : IsLast (withoutL l p) x ↔ IsLast l x ∧ x.1 ≠ p := by
  constructor
  · rintro ⟨A, B, h, hB⟩
    unfold withoutL at h
    obtain ⟨l1, l2, e, e1, e2⟩ := List.filter_eq_append_iff.1 h
    obtain ⟨C, D, e3, e4, e5, e6⟩ := List.filter_eq_cons_iff.1 e2
    have hxp : x.1 ≠ p := of_decide_eq_true e5
    refine ⟨⟨l1 ++ C, D, by rw [e, e3]; simp, fun y hy k => ?_⟩, hxp⟩
    exact hB y (by rw [← e6]; exact List.mem_filter.2 ⟨hy, decide_eq_true (by rw [k]; exact hxp)⟩) k
  · rintro ⟨⟨A, B, rfl, hB⟩, hx⟩
    refine ⟨withoutL A p, withoutL B p, ?_, fun y hy => hB y (without_has.1 hy).1⟩
    unfold withoutL
    rw [List.filter_append, List.filter_cons, if_pos (decide_eq_true hx)]
theorem sorted_without (l : List Rt) (p : Pf) : sortedL (withoutL l p) = withoutL (sortedL l) p := by
  refine ord_unique (sorted_ord _) (without_SL (sorted_ord l) p) fun x => ?_
  rw [sorted_has, last_without, without_has, sorted_has]
/-- The routes when a prefix leads to a hop, or, below 0, to none. -/
def turnL (T : List Rt) (p : Pf) (hop : Int) : List Rt := if 0 ≤ hop then intoL (withoutL T p) (p, hop) else withoutL T p
theorem sorted_with (l : List Rt) (p : Pf) (hop : Int) : sortedL (withL l p hop) = turnL (sortedL l) p hop := by
  unfold withL turnL
  by_cases h : 0 ≤ hop
  · rw [if_pos h, if_pos h, sortedL_snoc, sorted_without]
  · rw [if_neg h, if_neg h, List.append_nil, sorted_without]
theorem look_turn {T : List Rt} (h : SL T) (p : Pf) (hop : Int) (q : Pf) : lookR (turnL T p hop) q = if q = p then (if 0 ≤ hop then some hop else none) else lookR T q := by
  unfold turnL
  by_cases hh : 0 ≤ hop
  · rw [if_pos hh, look_into (without_SL h p), look_without h]
    by_cases e : q = p
    · rw [if_pos e, if_pos e, if_pos hh]
    · rw [if_neg e, if_neg e, if_neg e]
  · rw [if_neg hh, look_without h]
    by_cases e : q = p
    · rw [if_pos e, if_pos e, if_neg hh]
    · rw [if_neg e, if_neg e]
theorem ofM_look (l : List Rt) (c : Ad) (k : Nat) (v : Int) : ofM l c k = some v ↔ lookR (sortedL l) (c, (k : Int)) = some v ∧ Pf.right (c, (k : Int)) := by
  rw [sorted_says l c k v, lookR_mem (sorted_ord l)]
theorem ofM_with {l : List Rt} {p : Pf} {hop : Int} {c : Ad} {k : Nat} (h : (c, (k : Int)) ≠ p) : ofM (withL l p hop) c k = ofM l c k := by
  apply Option.ext
  intro v
  rw [ofM_look, ofM_look, sorted_with, look_turn (sorted_ord l), if_neg h]
theorem bestT_same {m m' : Ad → Nat → Option Int} {a : Ad} {low : Int} : ∀ {K : Nat}, (∀ j, j < K → low < (j : Int) → m (a.cut j) j = m' (a.cut j) j) → bestT m a low K = bestT m' a low K
  | 0, _ => rfl
  | K + 1, h => by
    unfold bestT
    by_cases hl : low < (K : Int)
    · rw [if_pos hl, if_pos hl, h K (by omega) hl, bestT_same (K := K) (fun j hj => h j (by omega))]
    · rw [if_neg hl, if_neg hl, bestT_same (K := K) (fun j hj => h j (by omega))]
theorem keysP_spec {p : Pf} (hp : p.1.ok) {n : Int} {k : Pf} : k ∈ keysP p n → k.2 = n ∧ k.1.ok ∧ k.1.cut n.toNat = k.1 ∧ p.has k.1 ∧ p.right ∧ p.2 ≤ n ∧ n ≤ 128 ∧ n - p.2 ≤ 8 := by
  intro h
  have hko := keysP_ok hp h
  unfold keysP at h
  split at h
  · next hh =>
    obtain ⟨h1, h2, h3, h4⟩ := hh
    unfold keysOf at h
    rw [List.mem_map] at h
    obtain ⟨i, hi, rfl⟩ := h
    have h0 := h1.1
    have hr : p.1.num % 2 ^ (128 - p.2.toNat) = 0 := (Ad.cut_self hp _).1 h1.2.2
    have hir := List.mem_range.1 hi
    have kr := key_right hp hr (show p.2.toNat ≤ n.toNat by omega) (by omega) hir
    have kh := key_has hp hr (show p.2.toNat ≤ n.toNat by omega) (by omega) hir
    rw [right_cast h1] at kh
    refine ⟨by show ((n.toNat : Nat) : Int) = n; omega, hko, ?_, kh, h1, h2, h3, h4⟩
    have := kr.2.2
    rw [Int.toNat_natCast] at this
    exact this
  · simp at h
theorem keysP_of {p : Pf} (hp : p.1.ok) {n : Int} {k : Pf} (h2 : k.2 = n) (hk : k.1.ok) (hc : k.1.cut n.toNat = k.1) (hh : p.has k.1) (hr : p.right) (hle : p.2 ≤ n) (hn : n ≤ 128) (h8 : n - p.2 ≤ 8) : k ∈ keysP p n := by
  unfold keysP
  rw [if_pos ⟨hr, hle, hn, h8⟩]
  have h0 := hr.1
  have hm : p.1.num % 2 ^ (128 - p.2.toNat) = 0 := (Ad.cut_self hp _).1 hr.2.2
  have hh2 : Pf.has (p.1, ((p.2.toNat : Nat) : Int)) k.1 := by rw [right_cast hr]; exact hh
  obtain ⟨t, ht, hj⟩ := key_of hp hk hm (show p.2.toNat ≤ n.toNat by omega) (by omega) hh2
  have h5 : k.1.cut ((n.toNat : Nat) : Int).toNat = keyAt p.1 n.toNat t := ((hj t ht).2 rfl).2
  rw [Int.toNat_natCast, hc] at h5
  unfold keysOf
  rw [List.mem_map]
  refine ⟨t, List.mem_range.2 ht, ?_⟩
  obtain ⟨ka, kn⟩ := k
  simp only at h2 h5
  rw [← h5, h2]
  congr 1
  omega
theorem raw_key {l : List Rt} (hok : ∀ r ∈ l, r.1.1.ok) {low high : Int} {k : Pf} (h : k ∈ rawKeys (sortedL l) low high) : k.2 = high ∧ k.1.ok ∧ k.1.cut high.toNat = k.1 ∧ 0 ≤ high ∧ high ≤ 128 := by
  unfold rawKeys at h
  rw [List.mem_flatMap] at h
  obtain ⟨r, hr, hk⟩ := h
  have hr1 := (List.mem_filter.1 hr).1
  obtain ⟨a, b, c, d, e, f, g, _⟩ := keysP_spec (hok r (sorted_mem hr1)) hk
  have := e.1
  exact ⟨a, b, c, by omega, g⟩
theorem look_set (l : List Rt) (low high : Int) (k : Pf) (v : Int) : lookR (setL l low high) k = some v ↔ k ∈ rawKeys (sortedL l) low high ∧ v = (atV (ofM l) k low).getD 0 := by
  rw [lookR_mem (set_ord l low high), set_has, List.mem_map]
  constructor
  · rintro ⟨k', h1, e⟩
    unfold atH at e
    injection e with e1 e2
    subst e1
    exact ⟨h1, e2.symm⟩
  · rintro ⟨h1, e⟩
    exact ⟨k, h1, by rw [e]; rfl⟩
theorem mem_raw {A : List Rt} {low high : Int} {k : Pf} : k ∈ rawKeys A low high ↔ ∃ r ∈ A, (low < r.1.2 ∧ r.1.2 ≤ high) ∧ k ∈ keysP r.1 high := by
  unfold rawKeys
  rw [List.mem_flatMap]
  constructor
  · rintro ⟨r, hr, hk⟩
    obtain ⟨h1, h2⟩ := List.mem_filter.1 hr
    exact ⟨r, h1, of_decide_eq_true h2, hk⟩
  · rintro ⟨r, h1, h2, hk⟩
    exact ⟨r, List.mem_filter.2 ⟨h1, decide_eq_true h2⟩, hk⟩
/-- A key that the prefix does not have, or of which the prefix is no route of the level, stays as it was. -/
theorem set_stays {l : List Rt} (hok : ∀ r ∈ l, r.1.1.ok) {p : Pf} (hp : p.1.ok) {hop low high : Int} {k : Pf} (h : ¬ (k ∈ keysP p high ∧ low < p.2 ∧ p.2 ≤ high)) (hr : p.right) (h8 : high - low ≤ 8) : lookR (setL (withL l p hop) low high) k = lookR (setL l low high) k := by
  have hok' := with_ok hok hp hop
  have half : ∀ (T T' : List Rt), (∀ r ∈ T, r.1 ≠ p → r ∈ T') → ∀ k', ¬ (k' ∈ keysP p high ∧ low < p.2 ∧ p.2 ≤ high) → k' ∈ rawKeys T low high → k' ∈ rawKeys T' low high := by
    intro T T' hT k' hk' hm
    obtain ⟨r, h1, h2, h3⟩ := mem_raw.1 hm
    by_cases e : r.1 = p
    · rw [e] at h2 h3; exact absurd ⟨h3, h2⟩ hk'
    · exact mem_raw.2 ⟨r, hT r h1 e, h2, h3⟩
  have t1 : ∀ r ∈ sortedL l, r.1 ≠ p → r ∈ sortedL (withL l p hop) := fun r h1 e => by
    obtain ⟨q, v⟩ := r
    rw [← lookR_mem (sorted_ord _)] at h1 ⊢
    rw [sorted_with, look_turn (sorted_ord l), if_neg e]; exact h1
  have t2 : ∀ r ∈ sortedL (withL l p hop), r.1 ≠ p → r ∈ sortedL l := fun r h1 e => by
    obtain ⟨q, v⟩ := r
    rw [← lookR_mem (sorted_ord _)] at h1 ⊢
    rw [sorted_with, look_turn (sorted_ord l), if_neg e] at h1; exact h1
  have hat : ∀ k', k' = k → k' ∈ rawKeys (sortedL l) low high ∨ k' ∈ rawKeys (sortedL (withL l p hop)) low high → atV (ofM (withL l p hop)) k' low = atV (ofM l) k' low := by
    intro k' hkk hm
    have hk : k'.2 = high ∧ k'.1.ok ∧ k'.1.cut high.toNat = k'.1 ∧ 0 ≤ high ∧ high ≤ 128 := hm.elim (raw_key hok) (raw_key hok')
    obtain ⟨g1, g2, g3, g4, g5⟩ := hk
    unfold atV
    congr 1
    refine bestT_same fun j hj hl => ofM_with fun e => h ?_
    have hbt : btK k'.2 = high.toNat + 1 := by rw [g1]; unfold btK; omega
    rw [hbt] at hj
    have ep1 : k'.1.cut j = p.1 := by rw [← e]
    have ep2 : p.2 = (j : Int) := by rw [← e]
    refine ⟨hkk ▸ keysP_of hp g1 g2 g3 ⟨hr, by rw [ep2, Int.toNat_natCast]; exact ep1⟩ hr (by omega) g5 (by omega), by omega, by omega⟩
  apply Option.ext
  intro v
  rw [look_set, look_set]
  constructor
  · rintro ⟨h1, h2⟩
    exact ⟨half _ _ t2 k h h1, by rw [h2, hat k rfl (.inr h1)]⟩
  · rintro ⟨h1, h2⟩
    exact ⟨half _ _ t1 k h h1, by rw [h2, hat k rfl (.inl h1)]⟩
theorem sub_len : ∀ {E K : List Pf}, E.Pairwise (fun x y => x.lt y) → (∀ r ∈ E, r ∈ K) → E.length ≤ K.length
  | [], _, _, _ => by simp
  | x :: E, K, h, hs => by
    have h' := List.pairwise_cons.1 h
    have hx := hs x (by simp)
    have := sub_len (E := E) (K := K.erase x) h'.2 (fun r hr => by
      have hne : r ≠ x := fun e => by have := h'.1 r hr; rw [e] at this; exact pf_lt_irrefl _ this
      exact (List.mem_erase_of_ne hne).2 (hs r (by simp [hr])))
    rw [List.length_erase_of_mem hx] at this
    have hpos : 0 < K.length := List.length_pos_of_mem hx
    simp only [List.length_cons]
    omega
/-- Of the changes in a level. -/
theorem few {l : List Rt} (hok : ∀ r ∈ l, r.1.1.ok) {p : Pf} (hp : p.1.ok) (hr : p.right) (hop : Int) {low high : Int} (h8 : high - low ≤ 8) :
    (∀ c ∈ levelD l p hop low high, c.1.2 = high ∧ p.has c.1.1 ∧ low < p.2 ∧ p.2 ≤ high) ∧ (levelD l p hop low high).length ≤ 256 := by
  have hk : ∀ c ∈ levelD l p hop low high, c.1 ∈ keysP p high ∧ low < p.2 ∧ p.2 ≤ high := by
    intro c hc
    have hi := (merge_is (set_ord _ _ _) (set_ord _ _ _) c).1 hc
    by_cases h : c.1 ∈ keysP p high ∧ low < p.2 ∧ p.2 ≤ high
    · exact h
    · exact absurd (set_stays hok hp h hr h8).symm hi.1
  refine ⟨fun c hc => ?_, ?_⟩
  · obtain ⟨h1, h2, h3⟩ := hk c hc
    obtain ⟨a, _, _, d, _⟩ := keysP_spec hp h1
    exact ⟨a, d, h2, h3⟩
  · have hs := merge_sorted (set_ord l low high) (set_ord (withL l p hop) low high)
    have := sub_len (E := (levelD l p hop low high).map (·.1)) (K := keysP p high) (List.pairwise_map.2 hs) (fun q hq => by
      obtain ⟨c, hc, rfl⟩ := List.mem_map.1 hq
      exact (hk c hc).1)
    have h2 := keysP_len p high
    rw [List.length_map] at this
    omega
end Go.Proofs.Ytcchjljdhjkmeaa
