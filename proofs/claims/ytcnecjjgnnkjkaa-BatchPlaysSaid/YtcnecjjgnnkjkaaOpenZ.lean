/-
  Arguments opened that lie in memory behind one another, with how long each slice may be. No condition.
-/
import Derived.SizedLaws
import Derived.Test.YtcnecjjgnnkjkaaOpenW
namespace Go.Proofs.Ytcnecjjgnnkjkaa
open Go.ChangeShapes Go.WideShapes Go.ChangeAt Go.RowKit Go.Deep
set_option linter.unusedVariables false
set_option linter.unusedSimpArgs false

theorem weights_all_mem {H : Type} {P : Program} {e : TypeId} {d : DataW H} : ∀ {l : List (DataW H)}, d ∈ l → ∀ n ∈ d.weights P e, n ∈ DataW.weightsAll P e l
  | [], h, _, _ => by simp at h
  | x :: l, h, n, hn => by
    unfold DataW.weightsAll
    rcases List.mem_cons.1 h with rfl | h
    · exact List.mem_append_left _ hn
    · exact List.mem_append_right _ (weights_all_mem h n hn)
/-- What reads at type t, all its slices within reach, is, in that world, a datum. -/
structure OpensZ (P : Program) (t : TypeId) (α : Type) (rd : World → List Value → α → Prop) : Prop where
  open_ : ∀ {H : Type} {enc : TypeId × Value → H} {w : World} {base : Nat} {spare : Nat → Bool} {held : Bool} {fuel : Nat} {cs : List Value} {x : DataW H × List MemPlace},
    DataW.trod enc P w base spare held fuel t cs = some x → (∀ n ∈ x.1.weights P t, n ≤ reachBytes) → ∃ a : α, rd w cs a
theorem OpensW.sized {P : Program} {t : TypeId} {α : Type} {rd : World → List Value → α → Prop} (h : OpensW P t α rd) : OpensZ P t α rd := ⟨fun k _ => h.open_ k⟩
theorem OpensZ.slice {P : Program} {t e : TypeId} {α : Type} {rd : World → List Value → α → Prop} (ht : P.underlying t = some (.slice e)) (ho : OpensZ P e α rd) (hpos : 0 < P.cellsOf e) : OpensZ P t (List α) (fun w cs l => RdW rd (P.cellsOf e) w cs l ∧ l.length * P.bytesOf e ≤ reachBytes) := by
  refine ⟨fun {H enc w base spare held fuel cs x} hf hz => ?_⟩
  rcases open_slice ht hf with ⟨rfl, _⟩ | ⟨a, len, cap, m, n, D, Pl, rfl, _, hl, hm, hmm, hx, hi⟩
  · exact ⟨[], ⟨Option.none, 0, [], rfl, Nat.le_refl _, by unfold maxLen; omega, rfl, fun k hk => by simp at hk, fun _ => rfl, by simp, fun k c a h => by simp at h⟩, by simp⟩
  · have hlm : len ≤ m := by rw [hmm]; split <;> omega
    have hwt : x.1.weights P t = (len + (m - len)) * P.bytesOf e :: (DataW.weightsAll P e ((List.range len).map D) ++ DataW.weightsAll P e ((List.range (m - len)).map fun j => D (len + j))) := by
      rw [hx]; simp [DataW.weights, ht]
    have hb : len * P.bytesOf e ≤ reachBytes := by
      have := hz _ (by rw [hwt]; exact List.mem_cons_self)
      exact Nat.le_trans (Nat.mul_le_mul_right _ (by omega)) this
    have hDz : ∀ i, i < len → ∀ n ∈ (D i).weights P e, n ≤ reachBytes := fun i hi' n hn => by
      refine hz n ?_
      rw [hwt]
      refine List.mem_cons_of_mem _ (List.mem_append_left _ (weights_all_mem ?_ n hn))
      exact List.mem_map.2 ⟨i, List.mem_range.2 hi', rfl⟩
    have hall : ∀ i, i < len → ∃ c : List Value, (∃ y, rd w c y) ∧ w.cells? base (a.add (i * P.cellsOf e)) (P.cellsOf e) = some c := by
      intro i hi'
      obtain ⟨cs', h1, h2⟩ := hi i (by omega)
      exact ⟨cs', ho.open_ h2 (hDz i hi'), h1⟩
    have hlist : ∀ k, k ≤ len → ∃ l : List (List Value), l.length = k ∧ (∀ c ∈ l, ∃ y, rd w c y) ∧ ∀ (i : Nat) (c : List Value), l[i]? = some c → w.cells? base (a.add (i * P.cellsOf e)) (P.cellsOf e) = some c := by
      intro k
      induction k with
      | zero => intro _; exact ⟨[], rfl, by simp, by simp⟩
      | succ k ih =>
        intro hk
        obtain ⟨l, h1, h2, h3⟩ := ih (by omega)
        obtain ⟨c, hx, hc⟩ := hall k (by omega)
        refine ⟨l ++ [c], by simp [h1], ?_, ?_⟩
        · intro y hy
          rcases List.mem_append.1 hy with hy | hy
          · exact h2 y hy
          · simp at hy; subst hy; exact hx
        · intro i y hy
          rw [List.getElem?_append] at hy
          split at hy
          · exact h3 i y hy
          · rename_i hge
            have : i = k := by
              have : i - l.length < 1 := by have := (List.getElem?_eq_some_iff.1 hy).1; simpa using this
              omega
            subst this
            rw [h1, Nat.sub_self] at hy
            simp at hy; subst hy; exact hc
    obtain ⟨l, h1, h2, h3⟩ := hlist len (Nat.le_refl _)
    obtain ⟨ls, hls, hR⟩ := choose_list l h2
    subst h1
    have hlen : ∀ c ∈ l, c.length = P.cellsOf e := by
      intro c hc
      obtain ⟨k, hk⟩ := List.getElem?_of_mem hc
      exact (World.cells?_some (h3 k c hk)).2.1
    refine ⟨ls, ⟨some a, cap, l, by rw [hls], by rw [hls]; exact hl, hm, hls.symm, fun k hk => ?_, fun h => by (cases h), hlen, hR⟩, by rw [hls]; exact hb⟩
    obtain ⟨_, hlen, hc⟩ := World.cells?_some (h3 k l[k] (List.getElem?_eq_getElem hk))
    have hsp : a.spot = Option.none := by
      have h0 := World.cells?_some (h3 0 (l[0]'(by omega)) (List.getElem?_eq_getElem (by omega)))
      have h00 := h0.2.2 0 hpos
      rw [Nat.zero_mul] at h00
      have e0 : (a.add 0).add 0 = a := by simp [Addr.add]
      rw [e0, List.getElem?_eq_getElem (by rw [h0.2.1]; exact hpos)] at h00
      cases hs : a.spot with
      | none => rfl
      | some s => simp [World.cell?, hs] at h00; split at h00 <;> simp at h00
    refine ⟨a.block, a.off, by cases a; simp_all, fun j hj x hx => ?_⟩
    rw [List.getElem?_eq_getElem hk] at hx
    simp at hx; subst hx
    rw [← hc j hj]
    congr 1
    cases a; simp only at hsp; subst hsp
    simp only [Addr.add]
    by_cases e1 : k * P.cellsOf e = 0 <;> by_cases e2 : j = 0 <;> simp_all <;> omega

theorem open_sized {H : Type} {enc : TypeId × Value → H} {P : Program} {w : World} {base : Nat} {spare : Nat → Bool} {held : Bool} {r : Reach} {b0 : Nat} {t e : TypeId} {α : Type} {rd : World → List Value → α → Prop} {ts : List TypeId} {ds : List (DataW H)} {j : Nat}
    (ht : P.underlying t = some (.slice e)) (ho : OpensZ P e α rd) (hpos : 0 < P.cellsOf e) {v : Value} {d : DataW H} {p : List MemPlace} (hv : Value.okWide P w r b0 t v) (h : DataW.Trod enc P w base spare held t v d p)
    (hz : (DataW.weightsEach P ts ds).all (· ≤ reachBytes) = true) (hj : ts[j]? = some t) (hd : ds[j]? = some d) : ∃ l : List α, RdW rd (P.cellsOf e) w [v] l ∧ l.length * P.bytesOf e ≤ reachBytes := by
  obtain ⟨A, len, cap, rfl⟩ := okWide_slice ht hv
  obtain ⟨fuel, hf⟩ := h
  refine (OpensZ.slice ht ho hpos).open_ hf fun n hn => ?_
  have := List.all_eq_true.1 hz _ (DataW.weights_mem_each hj hd n hn)
  simpa using this
theorem RdW.split {α : Type} {A : World → List Value → α → Prop} {B : α → Prop} {size : Nat} {w : World} {cs : List Value} {l : List α} (h : RdW (fun w cs a => A w cs a ∧ B a) size w cs l) : RdW A size w cs l ∧ ∀ a ∈ l, B a := by
  obtain ⟨X, cap, cc, he, h1, h2, h3, h4, h5, h6, h7⟩ := h
  refine ⟨⟨X, cap, cc, he, h1, h2, h3, h4, h5, h6, fun k c a hc ha => (h7 k c a hc ha).1⟩, fun a ha => ?_⟩
  obtain ⟨k, hk⟩ := List.getElem?_of_mem ha
  have hkl := (List.getElem?_eq_some_iff.1 hk).1
  exact (h7 k _ a (List.getElem?_eq_getElem (by rw [h3]; exact hkl)) hk).2
end Go.Proofs.Ytcnecjjgnnkjkaa
