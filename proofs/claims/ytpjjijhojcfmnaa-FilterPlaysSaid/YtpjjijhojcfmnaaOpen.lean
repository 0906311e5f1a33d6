/-
  Arguments opened: values of plain structs, and slices of them, as lists of plain data. No condition.
-/
import Derived.WalkKit
import Derived.ProofKit
import Derived.OpenShut
import Derived.Deep.Slices
namespace Go.Proofs.Ytpjjijhojcfmnaa
open Go.ChangeShapes Go.WideShapes Go.ChangeAt Go.RowKit Go.Deep
set_option linter.unusedVariables false
set_option linter.unusedSimpArgs false

/-- What reads at type t is the cells of a plain datum. -/
structure Opens (P : Program) (t : TypeId) (α : Type) (en : α → List Value) (ok : α → Prop) : Prop where
  open_ : ∀ {H : Type} {enc : TypeId × Value → H} {w : World} {base : Nat} {spare : Nat → Bool} {held : Bool} {fuel : Nat} {cs : List Value} {x : DataW H × List MemPlace},
    DataW.trod enc P w base spare held fuel t cs = some x → ∃ a : α, cs = en a ∧ ok a
  size_ : ∀ a, (en a).length = P.cellsOf t

theorem Opens.int {P : Program} {t : TypeId} {k : IntKind} (ht : P.underlying t = some (.int k)) (hc : P.cellsOf t = 1) : Opens P t Int (fun n => [.int k n]) (fun n => (Lit.int k n).wf = true) :=
  ⟨fun h => let ⟨n, h1, _, h3⟩ := DataW.trod_int ht h; ⟨n, h1, h3⟩, fun _ => hc.symm⟩
theorem Opens.bool {P : Program} {t : TypeId} (ht : P.underlying t = some .bool) (hc : P.cellsOf t = 1) : Opens P t Bool (fun b => [.bool b]) (fun _ => True) :=
  ⟨fun h => let ⟨n, h1, _⟩ := DataW.trod_bool ht h; ⟨n, h1, trivial⟩, fun _ => hc.symm⟩
theorem Opens.struct2 {P : Program} {t : TypeId} {f0 f1 : Field} {α β : Type} {ea : α → List Value} {eb : β → List Value} {oka : α → Prop} {okb : β → Prop}
    (ht : P.underlying t = some (.struct #[f0, f1])) (h0 : Opens P f0.type α ea oka) (h1 : Opens P f1.type β eb okb)
    (ho : f0.offset = 0 ∧ f1.offset = P.cellsOf f0.type ∧ P.cellsOf t = P.cellsOf f0.type + P.cellsOf f1.type) :
    Opens P t (α × β) (fun x => ea x.1 ++ eb x.2) (fun x => oka x.1 ∧ okb x.2) := by
  obtain ⟨o0, o1, o2⟩ := ho
  refine ⟨fun {H enc w base spare held fuel cs x} h => ?_, fun a => by simp [h0.size_, h1.size_, o2]⟩
  obtain ⟨xs, n, _, _, hl, hxl, hf⟩ := DataW.trod_struct ht h
  match xs, hxl with
  | [y0, y1], _ =>
    obtain ⟨a, ha, oa⟩ := h0.open_ (hf 0 f0 rfl)
    obtain ⟨b, hb, ob⟩ := h1.open_ (hf 1 f1 rfl)
    refine ⟨(a, b), ?_, oa, ob⟩
    rw [o0, List.drop_zero] at ha
    rw [o1, List.take_of_length_le (by rw [List.length_drop]; omega)] at hb
    show cs = ea a ++ eb b
    rw [← ha, ← hb, List.take_append_drop]
theorem Opens.struct3 {P : Program} {t : TypeId} {f0 f1 f2 : Field} {α β γ : Type} {ea : α → List Value} {eb : β → List Value} {ec : γ → List Value} {oka : α → Prop} {okb : β → Prop} {okc : γ → Prop}
    (ht : P.underlying t = some (.struct #[f0, f1, f2])) (h0 : Opens P f0.type α ea oka) (h1 : Opens P f1.type β eb okb) (h2 : Opens P f2.type γ ec okc)
    (ho : f0.offset = 0 ∧ f1.offset = P.cellsOf f0.type ∧ f2.offset = P.cellsOf f0.type + P.cellsOf f1.type ∧ P.cellsOf t = P.cellsOf f0.type + P.cellsOf f1.type + P.cellsOf f2.type) :
    Opens P t (α × β × γ) (fun x => ea x.1 ++ (eb x.2.1 ++ ec x.2.2)) (fun x => oka x.1 ∧ okb x.2.1 ∧ okc x.2.2) := by
  obtain ⟨o0, o1, o2, o3⟩ := ho
  refine ⟨fun {H enc w base spare held fuel cs x} h => ?_, fun a => by simp [h0.size_, h1.size_, h2.size_, o3]; omega⟩
  obtain ⟨xs, n, _, _, hl, hxl, hf⟩ := DataW.trod_struct ht h
  match xs, hxl with
  | [y0, y1, y2], _ =>
    obtain ⟨a, ha, oa⟩ := h0.open_ (hf 0 f0 rfl)
    obtain ⟨b, hb, ob⟩ := h1.open_ (hf 1 f1 rfl)
    obtain ⟨c, hc, oc⟩ := h2.open_ (hf 2 f2 rfl)
    refine ⟨(a, b, c), ?_, oa, ob, oc⟩
    rw [o0, List.drop_zero] at ha
    rw [o1] at hb
    rw [o2, List.take_of_length_le (by rw [List.length_drop]; omega)] at hc
    show cs = ea a ++ (eb b ++ ec c)
    rw [← ha, ← hb, ← hc, ← List.drop_drop, List.take_append_drop, List.take_append_drop]
/-- The same data, told otherwise. -/
theorem Opens.map {P : Program} {t : TypeId} {α β : Type} {ea : α → List Value} {eb : β → List Value} {oka : α → Prop} {okb : β → Prop} (h : Opens P t α ea oka) (f : α → β) (he : ∀ a, oka a → ea a = eb (f a)) (hs : ∀ b, (eb b).length = P.cellsOf t) (hok : ∀ a, oka a → okb (f a)) : Opens P t β eb okb :=
  ⟨fun k => let ⟨a, h1, h2⟩ := h.open_ k; ⟨f a, h1.trans (he a h2), hok a h2⟩, hs⟩

/-- A struct by value. -/
theorem open_val {H : Type} {enc : TypeId × Value → H} {P : Program} {w : World} {base : Nat} {spare : Nat → Bool} {held : Bool} {r : Reach} {b0 : Nat} {t : TypeId} {fs : Array Field} {α : Type} {en : α → List Value} {ok : α → Prop}
    (ho : Opens P t α en ok) (ht : P.underlying t = some (.struct fs)) {v : Value} {d : DataW H} {p : List MemPlace} (hv : Value.okWide P w r b0 t v) (h : DataW.Trod enc P w base spare held t v d p) : ∃ a, v = .agg (en a).toArray ∧ ok a := by
  obtain ⟨cs, rfl, _⟩ := okWide_struct ht hv
  obtain ⟨fuel, hf⟩ := h
  obtain ⟨a, ha, hok⟩ := ho.open_ hf
  refine ⟨a, ?_, hok⟩
  have : cs.toList = en a := by simpa [Value.cells] using ha
  rw [← this]

/-- The slice A reads, from its first element on, the list l of plain data, each of so many cells. -/
def RowAt {α : Type} (en : α → List Value) (size : Nat) (w : World) (A : Option Addr) (l : List α) : Prop :=
  ∀ k, k < l.length → ∃ b o, A = some ⟨b, o, none⟩ ∧ ∀ j, j < size → ∀ a, l[k]? = some a → w.cell? ⟨b, o + k * size + j, none⟩ = (en a)[j]?
theorem RowAt.below {α : Type} {en : α → List Value} {size : Nat} {w w' : World} {A : Option Addr} {l : List α} (h : RowAt en size w A l) (hl : ∀ a, (en a).length = size) {B : Nat} (hB : w.heap.size ≤ B) (hb : Below B w w') : RowAt en size w' A l := by
  intro k hk
  obtain ⟨b, o, hA, hc⟩ := h k hk
  refine ⟨b, o, hA, fun j hj a ha => ?_⟩
  rw [← hc j hj a ha]
  have := hc j hj a ha
  rw [List.getElem?_eq_getElem (by rw [hl]; exact hj)] at this
  exact hb.cell (Nat.lt_of_lt_of_le (World.block_lt_of_cell? w _ this) hB)

/-- One cell of it, in a later world; the address is spelt as the walk spells it. -/
theorem RowAt.cell {α : Type} {en : α → List Value} {size : Nat} {w : World} {A : Option Addr} {l : List α} (h : RowAt en size w A l) (hl : ∀ a, (en a).length = size) {k : Nat} {x : α} (hx : l[k]? = some x) :
    ∃ b o, A = some ⟨b, o, none⟩ ∧ ∀ w', Below w.heap.size w w' → ∀ (j : Nat) (v : Value), (en x)[j]? = some v → w'.cell? ⟨b, o + k * size + j, none⟩ = some v := by
  obtain ⟨b, o, hA, hc⟩ := h k (List.getElem?_eq_some_iff.1 hx).1
  refine ⟨b, o, hA, fun w' hb j v hv => ?_⟩
  have hj : j < size := by rw [← hl x]; exact (List.getElem?_eq_some_iff.1 hv).1
  have := (hc j hj x hx).trans hv
  exact (hb.cell (World.block_lt_of_cell? w _ this)).trans this

/-- An argument that is a slice of plain data. -/
theorem open_row2 {H : Type} {enc : TypeId × Value → H} {P : Program} {w : World} {base : Nat} {spare : Nat → Bool} {held : Bool} {r : Reach} {b0 : Nat} {t e : TypeId} {α : Type} {en : α → List Value} {ok : α → Prop}
    (ht : P.underlying t = some (.slice e)) (ho : Opens P e α en ok) (hpos : 0 < P.cellsOf e) {v : Value} {d : DataW H} {p : List MemPlace} (hv : Value.okWide P w r b0 t v) (h : DataW.Trod enc P w base spare held t v d p) :
    ∃ (A : Option Addr) (cap : Nat) (l : List α), v = .slice A l.length cap ∧ l.length ≤ cap ∧ cap ≤ maxLen ∧ (∀ x ∈ l, ok x) ∧ RowAt en (P.cellsOf e) w A l ∧ (A = none → cap = 0) := by
  obtain ⟨A, len, cap, rfl⟩ := okWide_slice ht hv
  obtain ⟨fuel, hf⟩ := h
  rcases open_slice ht hf with ⟨hcs, _⟩ | ⟨a, len', cap', m, n, D, Pl, hcs, _, hl, hm, hmm, _, hi⟩
  · simp [Value.cells] at hcs
    obtain ⟨rfl, rfl, rfl⟩ := hcs
    exact ⟨Option.none, 0, [], rfl, Nat.le_refl _, by unfold maxLen; omega, by simp, fun k hk => by simp at hk, fun _ => rfl⟩
  · simp [Value.cells] at hcs
    obtain ⟨rfl, rfl, rfl⟩ := hcs
    have hlm : len ≤ m := by rw [hmm]; split <;> omega
    have hall : ∀ i, i < len → ∃ x : α, ok x ∧ w.cells? base (a.add (i * P.cellsOf e)) (P.cellsOf e) = some (en x) := by
      intro i hi'
      obtain ⟨cs', h1, h2⟩ := hi i (by omega)
      obtain ⟨x, rfl, hx⟩ := ho.open_ h2
      exact ⟨x, hx, h1⟩
    have hlist : ∀ k, k ≤ len → ∃ l : List α, l.length = k ∧ (∀ x ∈ l, ok x) ∧ ∀ i x, l[i]? = some x → w.cells? base (a.add (i * P.cellsOf e)) (P.cellsOf e) = some (en x) := by
      intro k
      induction k with
      | zero => intro _; exact ⟨[], rfl, by simp, by simp⟩
      | succ k ih =>
        intro hk
        obtain ⟨l, h1, h2, h3⟩ := ih (by omega)
        obtain ⟨x, hx, hc⟩ := hall k (by omega)
        refine ⟨l ++ [x], by simp [h1], ?_, ?_⟩
        · intro y hy
          rcases List.mem_append.1 hy with hy | hy
          · exact h2 y hy
          · simp at hy; subst hy; exact hx
        · intro i y hy
          rw [List.getElem?_append] at hy
          split at hy
          · exact h3 i y hy
          · rename_i hge
            have : i = k := by
              have : i - l.length < 1 := by have := (List.getElem?_eq_some_iff.1 hy).1; simpa using this
              omega
            subst this
            rw [h1, Nat.sub_self] at hy
            simp at hy; subst hy; exact hc
    obtain ⟨l, h1, h2, h3⟩ := hlist len (Nat.le_refl _)
    subst h1
    refine ⟨some a, cap, l, rfl, hl, hm, h2, fun k hk => ?_, fun h => by cases h⟩
    obtain ⟨_, hlen, hc⟩ := World.cells?_some (h3 k l[k] (List.getElem?_eq_getElem hk))
    have hsp : a.spot = Option.none := by
      have h0 := World.cells?_some (h3 0 (l[0]'(by omega)) (List.getElem?_eq_getElem (by omega)))
      have h00 := h0.2.2 0 hpos
      rw [Nat.zero_mul] at h00
      have e0 : (a.add 0).add 0 = a := by simp [Addr.add]
      rw [e0, List.getElem?_eq_getElem (by rw [h0.2.1]; exact hpos)] at h00
      cases hs : a.spot with
      | none => rfl
      | some s => simp [World.cell?, hs] at h00; split at h00 <;> simp at h00
    refine ⟨a.block, a.off, by cases a; simp_all, fun j hj x hx => ?_⟩
    rw [List.getElem?_eq_getElem hk] at hx
    simp at hx; subst hx
    rw [← hc j hj]
    congr 1
    cases a; simp only at hsp; subst hsp
    simp only [Addr.add]
    by_cases e1 : k * P.cellsOf e = 0 <;> by_cases e2 : j = 0 <;> simp_all <;> omega
theorem open_row {H : Type} {enc : TypeId × Value → H} {P : Program} {w : World} {base : Nat} {spare : Nat → Bool} {held : Bool} {r : Reach} {b0 : Nat} {t e : TypeId} {α : Type} {en : α → List Value} {ok : α → Prop}
    (ht : P.underlying t = some (.slice e)) (ho : Opens P e α en ok) (hpos : 0 < P.cellsOf e) {v : Value} {d : DataW H} {p : List MemPlace} (hv : Value.okWide P w r b0 t v) (h : DataW.Trod enc P w base spare held t v d p) :
    ∃ (A : Option Addr) (cap : Nat) (l : List α), v = .slice A l.length cap ∧ l.length ≤ cap ∧ cap ≤ maxLen ∧ (∀ x ∈ l, ok x) ∧ RowAt en (P.cellsOf e) w A l :=
  let ⟨A, cap, l, h1, h2, h3, h4, h5, _⟩ := open_row2 ht ho hpos hv h; ⟨A, cap, l, h1, h2, h3, h4, h5⟩

end Go.Proofs.Ytpjjijhojcfmnaa
