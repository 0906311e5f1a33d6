/-
  A slice read as a list, whatever it lies in: an argument, or what a call has made. No condition.
-/
import Derived.Test.YtjhgmjfjlndomaaSlice
import Derived.Test.YtjhgmjfjlndomaaAddrOpen
namespace Go.Proofs.Ytjhgmjfjlndomaa
open Go.RowKit
set_option linter.unusedVariables false
set_option linter.unusedSimpArgs false

/-- v is a slice that reads as the list l, each element told by en as size cells. -/
def Rd {α : Type} (en : α → List Value) (size : Nat) (w : World) (v : Value) (l : List α) : Prop :=
  ∃ (A : Option Addr) (cap : Nat), v = .slice A l.length cap ∧ l.length ≤ cap ∧ cap ≤ maxLen ∧ RowAt en size w A l

section
variable {α : Type} {en : α → List Value} {size : Nat}
theorem RowAt.chg {w w' : World} {A : Option Addr} {l : List α} {S : Nat → Prop} (h : RowAt en size w A l) (hl : ∀ a, (en a).length = size) (k : Chg S w w') (hS : ∀ a, A = some a → ¬ S a.block) : RowAt en size w' A l := by
  intro i hi
  obtain ⟨b, o, hA, hc⟩ := h i hi
  refine ⟨b, o, hA, fun j hj a ha => ?_⟩
  rw [← hc j hj a ha]
  have := hc j hj a ha
  rw [List.getElem?_eq_getElem (by rw [hl]; exact hj)] at this
  exact World.cell?_of_block (k.block b (World.block_lt_of_cell? w _ this) (hS _ hA))
theorem Rd.chg {w w' : World} {v : Value} {l : List α} {S : Nat → Prop} (h : Rd en size w v l) (hl : ∀ a, (en a).length = size) (k : Chg S w w') (hS : ∀ g, v.ownBlock = some g → ¬ S g) : Rd en size w' v l := by
  obtain ⟨A, cap, rfl, h1, h2, h3⟩ := h
  exact ⟨A, cap, rfl, h1, h2, h3.chg hl k fun a ha => hS _ (by rw [ha]; rfl)⟩
theorem Rd.below {w w' : World} {v : Value} {l : List α} (h : Rd en size w v l) (hl : ∀ a, (en a).length = size) (k : Below w.heap.size w w') : Rd en size w' v l :=
  h.chg hl (Chg.of_below k fun _ => False) fun _ _ h => h
theorem Rd.nil (w : World) : Rd en size w (.slice none 0 0) [] := ⟨none, 0, rfl, Nat.le_refl _, by unfold maxLen; omega, fun k hk => by simp at hk⟩
/-- The cells of the k-th element. -/
theorem flat_get (hl : ∀ a, (en a).length = size) : ∀ (l : List α) (k : Nat) (a : α), l[k]? = some a → ∀ j, j < size → (l.flatMap en)[k * size + j]? = (en a)[j]?
  | [], _, _, h, _, _ => by simp at h
  | x :: l, 0, a, h, j, hj => by
    simp at h; subst h
    simp only [List.flatMap_cons, Nat.zero_mul, Nat.zero_add]
    rw [List.getElem?_append_left (by rw [hl]; exact hj)]
  | x :: l, k + 1, a, h, j, hj => by
    simp only [List.flatMap_cons]
    rw [List.getElem?_append_right (by rw [hl, Nat.succ_mul]; omega), hl, show (k + 1) * size + j - size = k * size + j from by rw [Nat.succ_mul]; omega]
    exact flat_get hl l k a (by simpa using h) j hj
theorem flat_len (hl : ∀ a, (en a).length = size) : ∀ (l : List α), (l.flatMap en).length = l.length * size
  | [] => by simp
  | x :: l => by simp only [List.flatMap_cons, List.length_append, List.length_cons, hl, flat_len hl l, Nat.succ_mul]; omega
theorem Rd.of_owns {w : World} {base : Nat} {e : TypeId} {v : Value} {l : List α} (h : Owns w base e size v l.length (l.flatMap en)) (hl : ∀ a, (en a).length = size) : Rd en size w v l := by
  obtain ⟨A, cap, rfl, h1, h2, h3⟩ := h.form
  refine ⟨A, cap, rfl, h1, h2, fun k hk => ?_⟩
  obtain ⟨g, rfl, _, _, hc⟩ := h3 (by omega)
  refine ⟨g, 0, rfl, fun j hj a ha => ?_⟩
  rw [Nat.zero_add, hc (k * size + j) ?_, flat_get hl l k a ha j hj]
  have : k * size + size ≤ l.length * size := by rw [← Nat.succ_mul]; exact Nat.mul_le_mul_right _ hk
  omega
/-- One element: its address, and its cells. -/
theorem Rd.get {w : World} {v : Value} {l : List α} (h : Rd en size w v l) (hl : ∀ a, (en a).length = size) (hs : 0 < size) {k : Nat} {x : α} (hx : l[k]? = some x) :
    ∃ b o cap, v = .slice (some ⟨b, o, none⟩) l.length cap ∧ l.length ≤ cap ∧ cap ≤ maxLen ∧ b < w.heap.size ∧ ∀ j c, (en x)[j]? = some c → w.cell? ⟨b, o + k * size + j, none⟩ = some c := by
  obtain ⟨A, cap, rfl, h1, h2, h3⟩ := h
  have hk := (List.getElem?_eq_some_iff.1 hx).1
  obtain ⟨b, o, rfl, hc⟩ := h3 k hk
  have hc' : ∀ j c, (en x)[j]? = some c → w.cell? ⟨b, o + k * size + j, none⟩ = some c := fun j c hj => by
    have hjs : j < size := by rw [← hl x]; exact (List.getElem?_eq_some_iff.1 hj).1
    exact (hc j hjs x hx).trans hj
  have := hc 0 hs x hx
  rw [List.getElem?_eq_getElem (by rw [hl]; omega)] at this
  exact ⟨b, o, cap, rfl, h1, h2, World.block_lt_of_cell? w _ this, hc'⟩
theorem Rd.form {w : World} {v : Value} {l : List α} (h : Rd en size w v l) : ∃ A cap, v = .slice A l.length cap ∧ l.length ≤ cap ∧ cap ≤ maxLen := let ⟨A, c, h1, h2, h3, _⟩ := h; ⟨A, c, h1, h2, h3⟩
end

end Go.Proofs.Ytjhgmjfjlndomaa
