/-
  'xs[k:]' and 'xs[:k]' of a slice that reads as a list, wherever it lies, in one form for all cases. No condition.
-/
import Derived.Test.YtcnecjjgnnkjkaaGBase
import Derived.Test.YtcnecjjgnnkjkaaGRef
namespace Go.Proofs.Ytcnecjjgnnkjkaa
open Go.RowKit
set_option linter.unusedVariables false
set_option linter.unusedSimpArgs false

/-- Where 'xs[k:]' begins. -/
def dropA (A : Option Addr) (cap k s : Nat) : Option Addr := if cap = k then A else A.map (·.add (k * s))
theorem add_none (b o n : Nat) : (⟨b, o, none⟩ : Addr).add n = ⟨b, o + n, none⟩ := by unfold Addr.add; split <;> simp_all
theorem Rd.dropA {α : Type} {en : α → List Value} {size : Nat} {w : World} {A : Option Addr} {cap n : Nat} {l : List α} (h : Rd en size w (.slice A n cap) l) (k : Nat) (hk : k ≤ l.length) :
    Rd en size w (.slice (Go.Proofs.Ytcnecjjgnnkjkaa.dropA A cap k size) (n - k) (cap - k)) (l.drop k) := by
  have hc := h
  obtain ⟨A', cap', e, h1, h2, h3, h4⟩ := hc
  injection e with e1 e2 e3
  subst e1 e2 e3
  cases A with
  | none =>
    have h0 := h4 rfl
    subst h0
    have hl : l.length = 0 := by omega
    have hk0 : k = 0 := by omega
    subst hk0
    have hl' := List.length_eq_zero_iff.1 hl
    subst hl'
    exact ⟨_, _, rfl, by simp, by unfold maxLen; omega, fun j hj => by simp at hj, fun _ => rfl⟩
  | some a =>
    by_cases hck : cap = k
    · have hl : l.drop k = [] := List.drop_of_length_le (by omega)
      rw [hl]
      unfold Go.Proofs.Ytcnecjjgnnkjkaa.dropA
      rw [if_pos hck, show l.length - k = 0 by omega]
      exact Rd.empty _ _ _ (by omega) (fun e => by cases e)
    · unfold Go.Proofs.Ytcnecjjgnnkjkaa.dropA
      rw [if_neg hck]
      by_cases hl0 : k < l.length
      · obtain ⟨b, o, e, _⟩ := h3 0 (by omega)
        injection e with e
        subst e
        have := h.dropS k hk
        simp only [Option.map_some, add_none]
        exact this
      · have hl : l.drop k = [] := List.drop_of_length_le (by omega)
        rw [hl, show l.length - k = 0 by omega]
        exact Rd.empty _ _ _ (by omega) (fun e => by cases e)
theorem dropA_own {A : Option Addr} {cap k s n m c c' : Nat} : ∀ z, (Value.slice (dropA A cap k s) n c).ownBlock = some z → (Value.slice A m c').ownBlock = some z := by
  intro z hz
  unfold dropA at hz
  split at hz
  · cases A with
    | none => simp [Value.ownBlock] at hz
    | some a => simpa [Value.ownBlock] using hz
  · cases A with
    | none => exact hz
    | some a =>
      simp only [Option.map_some, Value.ownBlock, Option.some.injEq] at hz ⊢
      rw [← hz]; unfold Addr.add; split <;> rfl

section
variable {P : Program} (w : World) (t : TypeId) (e : TypeId) (A : Option Addr) (n cap s : Nat) (ht : P.underlying t = some (.slice e)) (hs : ∀ w, (sizeOf e).run P w = .ok s w)
include ht hs
theorem slice_lo (kl : IntKind) (l : Int) (h0 : 0 ≤ l) (h1 : l ≤ n) : (Instr.slice t (.slice A n cap) (some (.int kl l)) none none).run P w = .ok (.slice (dropA A cap l.toNat s) (n - l.toNat) (cap - l.toNat)) w := by
  have he : P.elem t = e := by simp [Program.elem, ht]
  rw [run_slice_l w t A n cap (by rw [he]; exact ht) kl l h0 h1, he, hs]
  rfl
theorem slice_hi (kl : IntKind) (l : Int) (h0 : 0 ≤ l) (h1 : l ≤ cap) : (Instr.slice t (.slice A n cap) none (some (.int kl l)) none).run P w = .ok (.slice A l.toNat cap) w := by
  have he : P.elem t = e := by simp [Program.elem, ht]
  rw [run_slice_h w t A n cap (by rw [he]; exact ht) kl l h0 h1, he, hs]
  show Result.ok (sliced A 0 l.toNat cap s) w = _
  unfold sliced
  have : (if cap = 0 then A else A.map (·.add (0 * s))) = A := by
    split
    · rfl
    · cases A with
      | none => rfl
      | some a => simp [Addr.add]
  rw [this]; simp
end
theorem rt_size (w : World) : (sizeOf 87).run Try.prog w = .ok 4 w := by kernel_rfl
theorem pf_size (w : World) : (sizeOf 51).run Try.prog w = .ok 3 w := by kernel_rfl
theorem slice_lo_rt (w : World) (A : Option Addr) (n cap : Nat) (kl : IntKind) (l : Int) (h0 : 0 ≤ l) (h1 : l ≤ n) : (Instr.slice 60 (.slice A n cap) (some (.int kl l)) none none).run Try.prog w = .ok (.slice (dropA A cap l.toNat 4) (n - l.toNat) (cap - l.toNat)) w :=
  slice_lo w _ _ A n cap 4 Try.underlying60 rt_size kl l h0 h1
theorem slice_hi_rt (w : World) (A : Option Addr) (n cap : Nat) (kl : IntKind) (l : Int) (h0 : 0 ≤ l) (h1 : l ≤ cap) : (Instr.slice 60 (.slice A n cap) none (some (.int kl l)) none).run Try.prog w = .ok (.slice A l.toNat cap) w :=
  slice_hi w _ _ A n cap 4 Try.underlying60 rt_size kl l h0 h1
end Go.Proofs.Ytcnecjjgnnkjkaa
