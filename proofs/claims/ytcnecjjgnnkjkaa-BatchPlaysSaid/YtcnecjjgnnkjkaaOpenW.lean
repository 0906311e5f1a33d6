/-
  Arguments opened that lie in memory behind one another: slices of slices, structs with slices. No condition.
-/
import Derived.Test.YtcnecjjgnnkjkaaGBase
namespace Go.Proofs.Ytcnecjjgnnkjkaa
open Go.ChangeShapes Go.WideShapes Go.ChangeAt Go.RowKit Go.Deep
set_option linter.unusedVariables false
set_option linter.unusedSimpArgs false

/-- What reads at type t is, in that world, a datum. -/
structure OpensW (P : Program) (t : TypeId) (α : Type) (rd : World → List Value → α → Prop) : Prop where
  open_ : ∀ {H : Type} {enc : TypeId × Value → H} {w : World} {base : Nat} {spare : Nat → Bool} {held : Bool} {fuel : Nat} {cs : List Value} {x : DataW H × List MemPlace},
    DataW.trod enc P w base spare held fuel t cs = some x → ∃ a : α, rd w cs a
theorem OpensW.plain {P : Program} {t : TypeId} {α : Type} {en : α → List Value} {ok : α → Prop} (h : Opens P t α en ok) : OpensW P t α (fun _ cs a => cs = en a ∧ ok a) := ⟨fun k => h.open_ k⟩
theorem OpensW.map {P : Program} {t : TypeId} {α β : Type} {rd : World → List Value → α → Prop} {rd' : World → List Value → β → Prop} (h : OpensW P t α rd) (k : ∀ w cs a, rd w cs a → ∃ b, rd' w cs b) : OpensW P t β rd' :=
  ⟨fun h0 => let ⟨a, h1⟩ := h.open_ h0; k _ _ a h1⟩
/-- A slice whose elements read as a list of data. -/
def RdW {α : Type} (rd : World → List Value → α → Prop) (size : Nat) (w : World) (cs : List Value) (l : List α) : Prop :=
  ∃ (A : Option Addr) (cap : Nat) (cc : List (List Value)), cs = [.slice A l.length cap] ∧ l.length ≤ cap ∧ cap ≤ maxLen ∧ cc.length = l.length ∧ RowAt (fun c => c) size w A cc ∧ (A = none → cap = 0) ∧ (∀ c ∈ cc, c.length = size) ∧
    ∀ (k : Nat) (c : List Value) (a : α), cc[k]? = some c → l[k]? = some a → rd w c a
theorem choose_list {α β : Type} {R : α → β → Prop} : ∀ (l : List α), (∀ c ∈ l, ∃ a, R c a) → ∃ ls : List β, ls.length = l.length ∧ ∀ (k : Nat) (c : α) (a : β), l[k]? = some c → ls[k]? = some a → R c a
  | [], _ => ⟨[], rfl, fun k c a h => by simp at h⟩
  | x :: l, h => by
    obtain ⟨a, ha⟩ := h x (by simp)
    obtain ⟨ls, h1, h2⟩ := choose_list l fun c hc => h c (by simp [hc])
    refine ⟨a :: ls, by simp [h1], fun k c b hc hb => ?_⟩
    cases k with
    | zero => simp at hc hb; subst hc hb; exact ha
    | succ k => exact h2 k c b (by simpa using hc) (by simpa using hb)
theorem OpensW.slice {P : Program} {t e : TypeId} {α : Type} {rd : World → List Value → α → Prop} (ht : P.underlying t = some (.slice e)) (ho : OpensW P e α rd) (hpos : 0 < P.cellsOf e) : OpensW P t (List α) (RdW rd (P.cellsOf e)) := by
  refine ⟨fun {H enc w base spare held fuel cs x} hf => ?_⟩
  rcases open_slice ht hf with ⟨rfl, _⟩ | ⟨a, len, cap, m, n, D, Pl, rfl, _, hl, hm, hmm, _, hi⟩
  · exact ⟨[], Option.none, 0, [], rfl, Nat.le_refl _, by unfold maxLen; omega, rfl, fun k hk => by simp at hk, fun _ => rfl, by simp, fun k c a h => by simp at h⟩
  · have hlm : len ≤ m := by rw [hmm]; split <;> omega
    have hall : ∀ i, i < len → ∃ c : List Value, (∃ y, rd w c y) ∧ w.cells? base (a.add (i * P.cellsOf e)) (P.cellsOf e) = some c := by
      intro i hi'
      obtain ⟨cs', h1, h2⟩ := hi i (by omega)
      exact ⟨cs', ho.open_ h2, h1⟩
    have hlist : ∀ k, k ≤ len → ∃ l : List (List Value), l.length = k ∧ (∀ c ∈ l, ∃ y, rd w c y) ∧ ∀ (i : Nat) (c : List Value), l[i]? = some c → w.cells? base (a.add (i * P.cellsOf e)) (P.cellsOf e) = some c := by
      intro k
      induction k with
      | zero => intro _; exact ⟨[], rfl, by simp, by simp⟩
      | succ k ih =>
        intro hk
        obtain ⟨l, h1, h2, h3⟩ := ih (by omega)
        obtain ⟨c, hx, hc⟩ := hall k (by omega)
        refine ⟨l ++ [c], by simp [h1], ?_, ?_⟩
        · intro y hy
          rcases List.mem_append.1 hy with hy | hy
          · exact h2 y hy
          · simp at hy; subst hy; exact hx
        · intro i y hy
          rw [List.getElem?_append] at hy
          split at hy
          · exact h3 i y hy
          · rename_i hge
            have : i = k := by
              have : i - l.length < 1 := by have := (List.getElem?_eq_some_iff.1 hy).1; simpa using this
              omega
            subst this
            rw [h1, Nat.sub_self] at hy
            simp at hy; subst hy; exact hc
    obtain ⟨l, h1, h2, h3⟩ := hlist len (Nat.le_refl _)
    obtain ⟨ls, hls, hR⟩ := choose_list l h2
    subst h1
    have hlen : ∀ c ∈ l, c.length = P.cellsOf e := by
      intro c hc
      obtain ⟨k, hk⟩ := List.getElem?_of_mem hc
      exact (World.cells?_some (h3 k c hk)).2.1
    refine ⟨ls, some a, cap, l, by rw [hls], by rw [hls]; exact hl, hm, hls.symm, fun k hk => ?_, fun h => by (cases h), hlen, hR⟩
    obtain ⟨_, hlen, hc⟩ := World.cells?_some (h3 k l[k] (List.getElem?_eq_getElem hk))
    have hsp : a.spot = Option.none := by
      have h0 := World.cells?_some (h3 0 (l[0]'(by omega)) (List.getElem?_eq_getElem (by omega)))
      have h00 := h0.2.2 0 hpos
      rw [Nat.zero_mul] at h00
      have e0 : (a.add 0).add 0 = a := by simp [Addr.add]
      rw [e0, List.getElem?_eq_getElem (by rw [h0.2.1]; exact hpos)] at h00
      cases hs : a.spot with
      | none => rfl
      | some s => simp [World.cell?, hs] at h00; split at h00 <;> simp at h00
    refine ⟨a.block, a.off, by cases a; simp_all, fun j hj x hx => ?_⟩
    rw [List.getElem?_eq_getElem hk] at hx
    simp at hx; subst hx
    rw [← hc j hj]
    congr 1
    cases a; simp only at hsp; subst hsp
    simp only [Addr.add]
    by_cases e1 : k * P.cellsOf e = 0 <;> by_cases e2 : j = 0 <;> simp_all <;> omega
/-- An argument that is a slice, whatever its elements are. -/
theorem open_rows {H : Type} {enc : TypeId × Value → H} {P : Program} {w : World} {base : Nat} {spare : Nat → Bool} {held : Bool} {r : Reach} {b0 : Nat} {t e : TypeId} {α : Type} {rd : World → List Value → α → Prop}
    (ht : P.underlying t = some (.slice e)) (ho : OpensW P e α rd) (hpos : 0 < P.cellsOf e) {v : Value} {d : DataW H} {p : List MemPlace} (hv : Value.okWide P w r b0 t v) (h : DataW.Trod enc P w base spare held t v d p) :
    ∃ l : List α, RdW rd (P.cellsOf e) w [v] l := by
  obtain ⟨A, len, cap, rfl⟩ := okWide_slice ht hv
  obtain ⟨fuel, hf⟩ := h
  exact (OpensW.slice ht ho hpos).open_ hf
/-- Slices of slices of plain data. -/
def Rd2 {α : Type} (en : α → List Value) (ok : α → Prop) (size : Nat) (w : World) (v : Value) (ls : List (List α)) : Prop :=
  ∃ vs : List Value, vs.length = ls.length ∧ Rd (fun u : Value => [u]) 1 w v vs ∧ ∀ (k : Nat) (u : Value) (l : List α), vs[k]? = some u → ls[k]? = some l → Rd en size w u l ∧ ∀ x ∈ l, ok x
theorem RdW.rd {α : Type} {en : α → List Value} {ok : α → Prop} {size : Nat} {w : World} {v : Value} {l : List α} (hl : ∀ a, (en a).length = size) (h : RdW (fun _ cs a => cs = en a ∧ ok a) size w [v] l) : Rd en size w v l ∧ ∀ x ∈ l, ok x := by
  obtain ⟨A, cap, cc, he, h1, h2, h3, h4, h5, _, h6⟩ := h
  simp at he
  subst he
  have hcc : ∀ (k : Nat) (a : α), l[k]? = some a → cc[k]? = some (en a) ∧ ok a := by
    intro k a ha
    have hk : k < cc.length := by rw [h3]; exact (List.getElem?_eq_some_iff.1 ha).1
    obtain ⟨e, o⟩ := h6 k _ a (List.getElem?_eq_getElem hk) ha
    exact ⟨by rw [List.getElem?_eq_getElem hk, e], o⟩
  refine ⟨⟨A, cap, rfl, h1, h2, fun k hk => ?_, h5⟩, fun x hx => ?_⟩
  · obtain ⟨b, o, hA, hc⟩ := h4 k (by omega)
    exact ⟨b, o, hA, fun j hj a ha => hc j hj _ (hcc k a ha).1⟩
  · obtain ⟨k, hk⟩ := List.getElem?_of_mem hx
    exact (hcc k x hk).2
theorem RdW.rd2 {α : Type} {en : α → List Value} {ok : α → Prop} {size : Nat} {w : World} {v : Value} {ls : List (List α)} (hl : ∀ a, (en a).length = size) (h : RdW (RdW (fun _ cs a => cs = en a ∧ ok a) size) 1 w [v] ls) : Rd2 en ok size w v ls := by
  obtain ⟨A, cap, cc, he, h1, h2, h3, h4, h5, h6, h7⟩ := h
  simp at he
  subst he
  refine ⟨cc.map fun c => c.headD (.bool false), by rw [List.length_map, h3], ⟨A, cap, by rw [List.length_map, h3], by rw [List.length_map, h3]; exact h1, h2, fun k hk => ?_, h5⟩, fun k u l hu hll => ?_⟩
  · rw [List.length_map] at hk
    obtain ⟨b, o, hA, hc⟩ := h4 k hk
    refine ⟨b, o, hA, fun j hj a ha => ?_⟩
    rw [List.getElem?_map, Option.map_eq_some_iff] at ha
    obtain ⟨c, hc1, rfl⟩ := ha
    rw [hc j hj c hc1]
    have := h6 c (List.mem_of_getElem? hc1)
    match c, this with
    | [y], _ => rfl
  · rw [List.getElem?_map, Option.map_eq_some_iff] at hu
    obtain ⟨c, hc1, rfl⟩ := hu
    have hr := h7 k c l hc1 hll
    have := h6 c (List.mem_of_getElem? hc1)
    match c, this with
    | [y], _ => exact RdW.rd hl hr
theorem Rd2.chg {α : Type} {en : α → List Value} {ok : α → Prop} {size : Nat} {w w' : World} {v : Value} {ls : List (List α)} (h : Rd2 en ok size w v ls) (hl : ∀ a, (en a).length = size) (k : Below w.heap.size w w') : Rd2 en ok size w' v ls := by
  obtain ⟨vs, h1, h2, h3⟩ := h
  exact ⟨vs, h1, h2.below (fun _ => rfl) k, fun i u l hu hll => ⟨(h3 i u l hu hll).1.below hl k, (h3 i u l hu hll).2⟩⟩

end Go.Proofs.Ytcnecjjgnnkjkaa
