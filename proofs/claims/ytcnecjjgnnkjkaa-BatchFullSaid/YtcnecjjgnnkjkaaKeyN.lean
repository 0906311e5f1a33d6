/-
  Keys that are numbered: a row of them in order, and what laying one into it makes. Plain lists. No condition.
-/
import Derived.Test.YtcnecjjgnnkjkaaGTrie
import Derived.Test.YtcnecjjgnnkjkaaGSlc
namespace Go.Proofs.Ytcnecjjgnnkjkaa
set_option linter.unusedVariables false
set_option linter.unusedSimpArgs false

def kpf (s w i : Nat) : Pf := ((i * 2 ^ s, 0), (w : Int))
theorem kpf_v32 (k : Nat) : (#[.int .u64 ((kpf 32 32 k).1.1 : Int), .int .u64 ((kpf 32 32 k).1.2 : Int), .int .i64 (kpf 32 32 k).2] : Array Value) = #[.int .u64 ((k : Int) * 4294967296), .int .u64 0, .int .i64 32] := by
  have h : ((k * 2 ^ 32 : Nat) : Int) = (k : Int) * 4294967296 := by omega
  show (#[.int .u64 ((k * 2 ^ 32 : Nat) : Int), .int .u64 ((0 : Nat) : Int), .int .i64 ((32 : Nat) : Int)] : Array Value) = _
  rw [h]; rfl
theorem kpf_v50 (k : Nat) : (#[.int .u64 ((kpf 50 14 k).1.1 : Int), .int .u64 ((kpf 50 14 k).1.2 : Int), .int .i64 (kpf 50 14 k).2] : Array Value) = #[.int .u64 ((k : Int) * 1125899906842624), .int .u64 0, .int .i64 14] := by
  have h : ((k * 2 ^ 50 : Nat) : Int) = (k : Int) * 1125899906842624 := by omega
  show (#[.int .u64 ((k * 2 ^ 50 : Nat) : Int), .int .u64 ((0 : Nat) : Int), .int .i64 ((14 : Nat) : Int)] : Array Value) = _
  rw [h]; rfl
def rowK (s w : Nat) (V : List Int) : List Rt := V.mapIdx fun i v => (kpf s w i, v)
theorem kpf_lt {s w i j : Nat} : (kpf s w i).lt (kpf s w j) ↔ i < j := by
  unfold kpf Pf.lt
  simp only
  constructor
  · rintro (h | ⟨h, h2⟩)
    · exact Nat.lt_of_mul_lt_mul_right h
    · omega
  · intro h; exact .inl (Nat.mul_lt_mul_of_pos_right h (Nat.two_pow_pos s))
theorem kpf_inj {s w i j : Nat} (h : kpf s w i = kpf s w j) : i = j := by
  rcases Nat.lt_trichotomy i j with e | e | e
  · have := (kpf_lt (s := s) (w := w)).2 e; rw [h] at this; exact absurd this (pf_lt_irrefl _)
  · exact e
  · have := (kpf_lt (s := s) (w := w)).2 e; rw [h] at this; exact absurd this (pf_lt_irrefl _)
theorem rowK_len (s w : Nat) (V : List Int) : (rowK s w V).length = V.length := by simp [rowK]
theorem rowK_get {s w : Nat} {V : List Int} {i : Nat} {v : Int} (h : V[i]? = some v) : (rowK s w V)[i]? = some (kpf s w i, v) := by simp [rowK, h]
theorem rowK_mem {s w : Nat} {V : List Int} {r : Rt} : r ∈ rowK s w V ↔ ∃ (i : Nat) (v : Int), V[i]? = some v ∧ r = (kpf s w i, v) := by
  constructor
  · intro h
    obtain ⟨i, hi⟩ := List.getElem?_of_mem h
    unfold rowK at hi
    rw [List.getElem?_mapIdx, Option.map_eq_some_iff] at hi
    obtain ⟨v, hv, e⟩ := hi
    exact ⟨i, v, hv, e.symm⟩
  · rintro ⟨i, v, hv, rfl⟩
    exact List.mem_of_getElem? (rowK_get hv)
theorem rowK_ord (s w : Nat) (V : List Int) : (rowK s w V).Pairwise (fun x y => x.1.lt y.1) := by
  rw [List.pairwise_iff_getElem]
  intro i j hi hj hij
  simp only [rowK, List.getElem_mapIdx]
  exact kpf_lt.2 hij
theorem rowK_snoc (s w : Nat) (V : List Int) (v : Int) : intoL (rowK s w V) (kpf s w V.length, v) = rowK s w (V ++ [v]) := by
  refine ord_unique (into_ord (rowK_ord s w V) _) (rowK_ord s w _) fun r => ?_
  rw [into_has (rowK_ord s w V), rowK_mem, rowK_mem]
  constructor
  · rintro (rfl | ⟨⟨i, u, hi, rfl⟩, _⟩)
    · exact ⟨V.length, v, by simp, rfl⟩
    · exact ⟨i, u, by rw [List.getElem?_append_left (List.getElem?_eq_some_iff.1 hi).1]; exact hi, rfl⟩
  · rintro ⟨i, u, hi, rfl⟩
    by_cases e : i < V.length
    · rw [List.getElem?_append_left e] at hi
      exact .inr ⟨⟨i, u, hi, rfl⟩, fun h => by have := kpf_inj h; omega⟩
    · have h1 := (List.getElem?_eq_some_iff.1 hi).1
      simp at h1
      obtain rfl : i = V.length := by omega
      simp at hi
      subst hi
      exact .inl rfl
theorem rowK_set (s w : Nat) (V : List Int) {k : Nat} (hk : k < V.length) (v : Int) : intoL (rowK s w V) (kpf s w k, v) = rowK s w (V.set k v) := by
  refine ord_unique (into_ord (rowK_ord s w V) _) (rowK_ord s w _) fun r => ?_
  rw [into_has (rowK_ord s w V), rowK_mem, rowK_mem]
  constructor
  · rintro (rfl | ⟨⟨i, u, hi, rfl⟩, h⟩)
    · exact ⟨k, v, by simp [hk], rfl⟩
    · exact ⟨i, u, by rw [List.getElem?_set_ne (fun e => h (by rw [e]))]; exact hi, rfl⟩
  · rintro ⟨i, u, hi, rfl⟩
    by_cases e : k = i
    · subst e
      rw [List.getElem?_set_self hk] at hi
      simp at hi
      subst hi
      exact .inl rfl
    · rw [List.getElem?_set_ne e] at hi
      exact .inr ⟨⟨i, u, hi, rfl⟩, fun h => e (kpf_inj h).symm⟩
theorem rowK_no (s w : Nat) (V : List Int) : ∀ r ∈ rowK s w V, r.1 ≠ kpf s w V.length := by
  intro r hr e
  obtain ⟨i, v, hi, rfl⟩ := rowK_mem.1 hr
  have := kpf_inj e
  have := (List.getElem?_eq_some_iff.1 hi).1
  omega
end Go.Proofs.Ytcnecjjgnnkjkaa
