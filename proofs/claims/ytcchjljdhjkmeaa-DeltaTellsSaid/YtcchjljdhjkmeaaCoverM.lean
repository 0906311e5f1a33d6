/-
  What a level holds, in plain lists: the keys of its routes, each once, in order, with the hops of the longest. No condition.
-/
import Derived.Test.YtcchjljdhjkmeaaSortM
import Derived.Test.YtcchjljdhjkmeaaCover
import Derived.Test.YtcchjljdhjkmeaaSpread
import Derived.Test.YtcchjljdhjkmeaaGSlc
namespace Go.Proofs.Ytcchjljdhjkmeaa
open Go.RowKit
set_option linter.unusedVariables false
set_option linter.unusedSimpArgs false

def inLv (low high : Int) (r : Rt) : Bool := decide (low < r.1.2 ∧ r.1.2 ≤ high)
/-- All keys of routes of some lengths, one route behind the other. -/
def rawKeys (A : List Rt) (low high : Int) : List Pf := (A.filter (inLv low high)).flatMap fun r => keysP r.1 high
def atH (l : List Rt) (low : Int) (k : Pf) : Rt := (k, (atV (ofM l) k low).getD 0)
/-- What a level holds. -/
def setL (l : List Rt) (low high : Int) : List Rt := sortedL ((rawKeys (sortedL l) low high).map (atH l low))
theorem rawKeys_snoc {A : List Rt} {k : Nat} {x : Rt} (h : A[k]? = some x) (low high : Int) : rawKeys (A.take (k + 1)) low high = rawKeys (A.take k) low high ++ if inLv low high x then keysP x.1 high else [] := by
  obtain ⟨hk, e⟩ := List.getElem?_eq_some_iff.1 h
  unfold rawKeys
  rw [List.take_succ_eq_append_getElem hk, e, List.filter_append, List.flatMap_append]
  congr 1
  cases hx : inLv low high x <;> simp [hx]
theorem rawKeys_len (A : List Rt) (low high : Int) : (rawKeys A low high).length ≤ 256 * A.length := by
  induction A with
  | nil => simp [rawKeys]
  | cons x A ih =>
    unfold rawKeys at ih ⊢
    rw [List.filter_cons]
    have := keysP_len x.1 high
    split
    · rw [List.flatMap_cons, List.length_append, List.length_cons]; omega
    · rw [List.length_cons]; omega
theorem rawKeys_right (A : List Rt) (low high : Int) : rawKeys (A.filter fun r => decide r.1.right) low high = rawKeys A low high := by
  induction A with
  | nil => rfl
  | cons x A ih =>
    unfold rawKeys at ih ⊢
    by_cases hr : x.1.right
    · rw [List.filter_cons, if_pos (by simpa using hr), List.filter_cons, List.filter_cons]
      split
      · rw [List.flatMap_cons, List.flatMap_cons, ih]
      · exact ih
    · rw [List.filter_cons, if_neg (by simpa using hr), ih, List.filter_cons]
      split
      · rw [List.flatMap_cons, keysP_no (fun k => hr k.1), List.nil_append]
      · rfl
theorem keysP_ok {p : Pf} (hp : p.1.ok) {n : Int} {k : Pf} (h : k ∈ keysP p n) : k.1.ok := by
  unfold keysP at h
  split at h
  · next hh =>
    obtain ⟨h1, h2, h3, h4⟩ := hh
    unfold keysOf at h
    rw [List.mem_map] at h
    obtain ⟨i, hi, rfl⟩ := h
    have h0 := h1.1
    have hr : p.1.num % 2 ^ (128 - p.2.toNat) = 0 := (Ad.cut_self hp _).1 h1.2.2
    exact key_ok hp hr (by omega) (by omega) (List.mem_range.1 hi)
  · simp at h
theorem rawKeys_ok {A : List Rt} (hA : ∀ r ∈ A, r.1.1.ok) {low high : Int} : ∀ k ∈ rawKeys A low high, k.1.ok := by
  intro k hk
  unfold rawKeys at hk
  rw [List.mem_flatMap] at hk
  obtain ⟨r, hr, hk⟩ := hk
  exact keysP_ok (hA r (List.mem_filter.1 hr).1) hk
theorem last_map {f : Pf → Rt} (hf : ∀ k, (f k).1 = k) (R : List Pf) : ∀ x, IsLast (R.map f) x ↔ x ∈ R.map f := by
  refine snoc_ind (p := fun R => ∀ x, IsLast (R.map f) x ↔ x ∈ R.map f) ?_ ?_ R
  · intro x
    constructor
    · rintro ⟨A, B, h, _⟩; simp at h
    · intro h; simp at h
  · intro R k ih x
    constructor
    · rintro ⟨A, B, h, _⟩; rw [h]; simp
    · intro hx
      rw [List.map_append, List.map_cons, List.map_nil] at hx ⊢
      by_cases e : x = f k
      · subst e; exact ⟨R.map f, [], rfl, fun y hy => by simp at hy⟩
      · have hx' : x ∈ R.map f := by
          rcases List.mem_append.1 hx with h | h
          · exact h
          · exact absurd (List.mem_singleton.1 h) e
        obtain ⟨A, B, h, hB⟩ := (ih x).2 hx'
        refine ⟨A, B ++ [f k], by rw [h]; simp, fun y hy => ?_⟩
        rcases List.mem_append.1 hy with hy | hy
        · exact hB y hy
        · rw [List.mem_singleton.1 hy]
          intro e2
          obtain ⟨k', hk', rfl⟩ := List.mem_map.1 hx'
          rw [hf, hf] at e2
          exact e (by rw [e2])
theorem set_has (l : List Rt) (low high : Int) (x : Rt) : x ∈ setL l low high ↔ x ∈ (rawKeys (sortedL l) low high).map (atH l low) := by
  unfold setL
  rw [sorted_has, last_map (f := atH l low) (fun _ => rfl)]
theorem set_ord (l : List Rt) (low high : Int) : (setL l low high).Pairwise (fun x y => x.1.lt y.1) := sorted_ord _
theorem set_is {l : List Rt} {low high : Int} {K : List Pf} (hK : K.Pairwise (fun x y => x.lt y)) (hm : ∀ k, k ∈ K ↔ k ∈ rawKeys (sortedL l) low high) : K.map (atH l low) = setL l low high := by
  refine ord_unique (List.pairwise_map.2 hK) (set_ord l low high) fun x => ?_
  rw [set_has, List.mem_map, List.mem_map]
  exact ⟨fun ⟨k, h1, h2⟩ => ⟨k, (hm k).1 h1, h2⟩, fun ⟨k, h1, h2⟩ => ⟨k, (hm k).2 h1, h2⟩⟩
theorem set_len (l : List Rt) (low high : Int) : (setL l low high).length ≤ 256 * l.length := by
  unfold setL
  have h1 := sorted_le ((rawKeys (sortedL l) low high).map (atH l low))
  have h2 := rawKeys_len (sortedL l) low high
  have h3 := sorted_le l
  rw [List.length_map] at h1
  omega
end Go.Proofs.Ytcchjljdhjkmeaa

namespace Go.Proofs.Ytcchjljdhjkmeaa
open Go.RowKit Go.Shelf Go.Lib Go.Sort
set_option linter.unusedVariables false
set_option linter.unusedSimpArgs false
set_option maxRecDepth 100000
theorem pfCmp_lt (x y : Pf) : ltOf Pf.cmp x y = decide (x.lt y) := by unfold ltOf; simp only [cmp_lt]
theorem pfCmp_swo : SWO (ltOf Pf.cmp) where
  irrefl x := by rw [pfCmp_lt]; exact decide_eq_false (pf_lt_irrefl _)
  trans x y z h1 h2 := by
    rw [pfCmp_lt] at *
    exact decide_eq_true (pf_lt_trans (of_decide_eq_true h1) (of_decide_eq_true h2))
  ntrans x y z h1 h2 := by
    rw [pfCmp_lt] at *
    have h1 := of_decide_eq_false h1
    have h2 := of_decide_eq_false h2
    refine decide_eq_false fun h => ?_
    unfold Pf.lt at *
    omega
theorem cells_pf (r : Pf) : ∀ u ∈ pfEn r, u.oneCell' = true := by intro u hu; simp [pfEn] at hu; rcases hu with rfl | rfl | rfl <;> rfl
theorem sort_prefixes (w : World) (base : Nat) (v : Value) (l : List Pf) (hv : Owns w base 37 3 v l.length (pfsV l)) (hlen : l.length ≤ 100000000) :
    Calls Try.prog 48 #[v, .func (.func 41) #[] #[]] w (SortPost base 37 pfEn 3 Pf.cmp w v l) := by
  have h := sortK (P := Try.prog) (en := pfEn) (k := 3) Try.sortPrefix pfEn_length (by decide) (fun _ => by kernel_rfl) (fun _ => by kernel_rfl) cells_pf Pf.cmp pfCmp_swo 41 (enters_of Try.func41 (by kernel_rfl) rfl)
    (fun x y W => addr_compareG x y W) w base 37 v l hv hlen
  exact h
theorem sorted_not {l : List Pf} (h : l.Pairwise (fun x y => ltOf Pf.cmp y x = false)) : l.Pairwise (fun x y => ¬ y.lt x) := h.imp fun {x y} k => by rw [pfCmp_lt] at k; exact of_decide_eq_false k
end Go.Proofs.Ytcchjljdhjkmeaa
