/-
  What the laws of chapter 9 share: counters that track what lies where, and the document's example. No condition but that words are words.
-/
import Derived.Test.YtpjjijhojcfmnaaGreatFil
namespace Go.Proofs.YtpjjijhojcfmnaaGreat
open Go.RowKit
set_option linter.unusedVariables false
set_option linter.unusedSimpArgs false
set_option maxRecDepth 100000

/-- Each counter is full, or is how often it is in a list. -/
structure Trk (m : Nat) (c L : List Nat) : Prop where
  len : c.length = m
  le : Le15 c
  cnt : ∀ i, i < m → c.getD i 0 = 15 ∨ c.getD i 0 = L.count i
theorem Trk.zero (m : Nat) : Trk m (List.replicate m 0) [] := ⟨List.length_replicate, Le15.zero m, fun i hi => .inr (by simp [hi])⟩
theorem Trk.add {m : Nat} {c L : List Nat} (h : Trk m c L) (K : List Nat) {L' : List Nat} (hL : ∀ i, L'.count i = L.count i + K.count i) : Trk m (addC K c) L' := by
  refine ⟨by rw [addC_len]; exact h.len, h.le.add K, fun i hi => ?_⟩
  have h1 := addC_get i K c h.le (by rw [h.len]; exact hi)
  have h2 := h.cnt i hi
  have h3 := hL i
  omega
theorem Trk.rem {m : Nat} {c L : List Nat} (h : Trk m c L) (K : List Nat) {L' : List Nat} (hL : ∀ i, L.count i = L'.count i + K.count i) : Trk m (remC K c) L' := by
  refine ⟨by rw [remC_len]; exact h.len, h.le.rem K, fun i hi => ?_⟩
  have h1 := remC_get i K c h.le (by rw [h.len]; exact hi)
  have h2 := h.cnt i hi
  have h3 := hL i
  by_cases e : c.getD i 0 = 15
  · rw [if_pos e] at h1; exact .inl h1
  · rw [if_neg e] at h1; omega
theorem Trk.may {m : Nat} {c L K : List Nat} (h : Trk m c L) (hK : ∀ i ∈ K, i < m) (hc : ∀ i ∈ K, 0 < L.count i) : mayB K c = true := by
  refine mayB_all fun j i hj => ?_
  have hm := List.mem_of_getElem? hj
  have h1 := h.cnt i (hK i hm)
  have h2 := hc i hm
  omega
theorem count_flat_take {α : Type} (f : α → List Nat) {l : List α} {k : Nat} {x : α} (h : l[k]? = some x) (i : Nat) : ((l.take (k + 1)).flatMap f).count i = ((l.take k).flatMap f).count i + (f x).count i := by
  obtain ⟨hk, rfl⟩ := List.getElem?_eq_some_iff.1 h
  rw [List.take_succ_eq_append_getElem hk, List.flatMap_append, List.count_append]; simp
theorem count_flat_drop {α : Type} (f : α → List Nat) {l : List α} {k : Nat} {x : α} (h : l[k]? = some x) (i : Nat) : ((l.drop k).flatMap f).count i = ((l.drop (k + 1)).flatMap f).count i + (f x).count i := by
  obtain ⟨hk, rfl⟩ := List.getElem?_eq_some_iff.1 h
  rw [List.drop_eq_getElem_cons hk, List.flatMap_cons, List.count_append]; omega
theorem mayB_zero {L : List Nat} (m : Nat) (h : L ≠ []) : mayB L (List.replicate m 0) = false := by
  obtain ⟨x, L, rfl⟩ := List.exists_cons_of_ne_nil h
  refine mayB_no (j := 0) (i := x) rfl ?_
  rw [List.getD_eq_getElem?_getD, List.getElem?_replicate]
  split <;> simp

def KPost (W : World) (f : Nat) (F : Nat → Prop) (s : Nat) (k : Int) (m : Nat) (L : List Nat) (e : Ending) (w' : World) : Prop := e = .returned (.tuple #[]) ∧ ∃ c', Flt w' f F s k c' ∧ Trk m c' L ∧ Below W.heap.size W w'
section
variable {W w : World} {f s : Nat} {F : Nat → Prop} {k : Int} {c L : List Nat} {m : Nat}
theorem keep_add (h : Flt w f F s k c) (T : Trk m c L) (hB : Below W.heap.size W w) (hF : ∀ x, F x → W.heap.size ≤ x) (p : Pf) (hp : p.1.ok) {L' : List Nat} (hL : ∀ i, L'.count i = L.count i + (placesN s p k m).count i) :
    Calls Tryz.prog 38 #[.pointer (some ⟨f, 0, none⟩), .agg #[.int .u64 (p.1.1 : Int), .int .u64 (p.1.2 : Int), .int .i64 p.2]] w (KPost W f F s k m L') :=
  (filter_add h p hp).mono fun e w' ⟨h1, h2, h3⟩ => ⟨h1, _, h2, T.add _ (by rw [T.len]; exact hL), hB.trans (h3.below hB.size fun i hi hf => by have := hF i hf; omega)⟩
theorem keep_rem (h : Flt w f F s k c) (T : Trk m c L) (hB : Below W.heap.size W w) (hF : ∀ x, F x → W.heap.size ≤ x) (p : Pf) (hp : p.1.ok) {L' : List Nat} (hL : ∀ i, L.count i = L'.count i + (placesN s p k m).count i) :
    Calls Tryz.prog 40 #[.pointer (some ⟨f, 0, none⟩), .agg #[.int .u64 (p.1.1 : Int), .int .u64 (p.1.2 : Int), .int .i64 p.2]] w (KPost W f F s k m L') :=
  (filter_remove h p hp).mono fun e w' ⟨h1, h2, h3⟩ => ⟨h1, _, h2, T.rem _ (by rw [T.len]; exact hL), hB.trans (h3.below hB.size fun i hi hf => by have := hF i hf; omega)⟩
end
end Go.Proofs.YtpjjijhojcfmnaaGreat
