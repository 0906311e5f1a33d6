/-
  A slice read as a list, whatever it lies in: an argument, or what a call has made. No condition.
-/
import Derived.Test.YtpjjijhojcfmnaaSlice
import Derived.Laws.AppendOwnNone
import Derived.Test.YtpjjijhojcfmnaaAddrOpen
namespace Go.Proofs.Ytpjjijhojcfmnaa
open Go.RowKit
set_option linter.unusedVariables false
set_option linter.unusedSimpArgs false

/-- v is a slice that reads as the list l, each element told by en as size cells. -/
def Rd {α : Type} (en : α → List Value) (size : Nat) (w : World) (v : Value) (l : List α) : Prop :=
  ∃ (A : Option Addr) (cap : Nat), v = .slice A l.length cap ∧ l.length ≤ cap ∧ cap ≤ maxLen ∧ RowAt en size w A l ∧ (A = none → cap = 0)

section
variable {α : Type} {en : α → List Value} {size : Nat}
theorem RowAt.chg {w w' : World} {A : Option Addr} {l : List α} {S : Nat → Prop} (h : RowAt en size w A l) (hl : ∀ a, (en a).length = size) (k : Chg S w w') (hS : ∀ a, A = some a → ¬ S a.block) : RowAt en size w' A l := by
  intro i hi
  obtain ⟨b, o, hA, hc⟩ := h i hi
  refine ⟨b, o, hA, fun j hj a ha => ?_⟩
  rw [← hc j hj a ha]
  have := hc j hj a ha
  rw [List.getElem?_eq_getElem (by rw [hl]; exact hj)] at this
  exact World.cell?_of_block (k.block b (World.block_lt_of_cell? w _ this) (hS _ hA))
theorem Rd.chg {w w' : World} {v : Value} {l : List α} {S : Nat → Prop} (h : Rd en size w v l) (hl : ∀ a, (en a).length = size) (k : Chg S w w') (hS : ∀ g, v.ownBlock = some g → ¬ S g) : Rd en size w' v l := by
  obtain ⟨A, cap, rfl, h1, h2, h3, h4⟩ := h
  exact ⟨A, cap, rfl, h1, h2, h3.chg hl k fun a ha => hS _ (by rw [ha]; rfl), h4⟩
theorem Rd.below {w w' : World} {v : Value} {l : List α} (h : Rd en size w v l) (hl : ∀ a, (en a).length = size) (k : Below w.heap.size w w') : Rd en size w' v l :=
  h.chg hl (Chg.of_below k fun _ => False) fun _ _ h => h
theorem Rd.nil (w : World) : Rd en size w (.slice none 0 0) [] := ⟨none, 0, rfl, Nat.le_refl _, by unfold maxLen; omega, fun k hk => by simp at hk, fun _ => rfl⟩
/-- The cells of the k-th element. -/
theorem flat_get (hl : ∀ a, (en a).length = size) : ∀ (l : List α) (k : Nat) (a : α), l[k]? = some a → ∀ j, j < size → (l.flatMap en)[k * size + j]? = (en a)[j]?
  | [], _, _, h, _, _ => by simp at h
  | x :: l, 0, a, h, j, hj => by
    simp at h; subst h
    simp only [List.flatMap_cons, Nat.zero_mul, Nat.zero_add]
    rw [List.getElem?_append_left (by rw [hl]; exact hj)]
  | x :: l, k + 1, a, h, j, hj => by
    simp only [List.flatMap_cons]
    rw [List.getElem?_append_right (by rw [hl, Nat.succ_mul]; omega), hl, show (k + 1) * size + j - size = k * size + j from by rw [Nat.succ_mul]; omega]
    exact flat_get hl l k a (by simpa using h) j hj
theorem flat_len (hl : ∀ a, (en a).length = size) : ∀ (l : List α), (l.flatMap en).length = l.length * size
  | [] => by simp
  | x :: l => by simp only [List.flatMap_cons, List.length_append, List.length_cons, hl, flat_len hl l, Nat.succ_mul]; omega
theorem Rd.of_owns {w : World} {base : Nat} {e : TypeId} {v : Value} {l : List α} (h : Owns w base e size v l.length (l.flatMap en)) (hl : ∀ a, (en a).length = size) : Rd en size w v l := by
  have hn := h.2
  obtain ⟨A, cap, rfl, h1, h2, h3⟩ := h.form
  refine ⟨A, cap, rfl, h1, h2, fun k hk => ?_, fun hA => by subst hA; rcases hn with ⟨hn, _⟩ | ⟨g, c, cur, hn, _⟩ <;> injection hn with h1 h2 h3; cases h1⟩
  obtain ⟨g, rfl, _, _, hc⟩ := h3 (by omega)
  refine ⟨g, 0, rfl, fun j hj a ha => ?_⟩
  rw [Nat.zero_add, hc (k * size + j) ?_, flat_get hl l k a ha j hj]
  have : k * size + size ≤ l.length * size := by rw [← Nat.succ_mul]; exact Nat.mul_le_mul_right _ hk
  omega
/-- One element: its address, and its cells. -/
theorem Rd.get {w : World} {v : Value} {l : List α} (h : Rd en size w v l) (hl : ∀ a, (en a).length = size) (hs : 0 < size) {k : Nat} {x : α} (hx : l[k]? = some x) :
    ∃ b o cap, v = .slice (some ⟨b, o, none⟩) l.length cap ∧ l.length ≤ cap ∧ cap ≤ maxLen ∧ b < w.heap.size ∧ ∀ j c, (en x)[j]? = some c → w.cell? ⟨b, o + k * size + j, none⟩ = some c := by
  obtain ⟨A, cap, rfl, h1, h2, h3, _⟩ := h
  have hk := (List.getElem?_eq_some_iff.1 hx).1
  obtain ⟨b, o, rfl, hc⟩ := h3 k hk
  have hc' : ∀ j c, (en x)[j]? = some c → w.cell? ⟨b, o + k * size + j, none⟩ = some c := fun j c hj => by
    have hjs : j < size := by rw [← hl x]; exact (List.getElem?_eq_some_iff.1 hj).1
    exact (hc j hjs x hx).trans hj
  have := hc 0 hs x hx
  rw [List.getElem?_eq_getElem (by rw [hl]; omega)] at this
  exact ⟨b, o, cap, rfl, h1, h2, World.block_lt_of_cell? w _ this, hc'⟩
theorem Rd.form {w : World} {v : Value} {l : List α} (h : Rd en size w v l) : ∃ A cap, v = .slice A l.length cap ∧ l.length ≤ cap ∧ cap ≤ maxLen := let ⟨A, c, h1, h2, h3, _⟩ := h; ⟨A, c, h1, h2, h3⟩
/-- A part of it. -/
theorem Rd.takeS {w : World} {A : Option Addr} {cap : Nat} {l : List α} {n : Nat} (h : Rd en size w (.slice A n cap) l) (k : Nat) (hk : k ≤ l.length) : Rd en size w (.slice A k cap) (l.take k) := by
  obtain ⟨A', cap', e, h1, h2, h3, h4⟩ := h
  injection e with e1 _ e3
  subst e1 e3
  have hl : (l.take k).length = k := by rw [List.length_take]; omega
  refine ⟨A, cap, by rw [hl], by omega, h2, fun j hj => ?_, h4⟩
  obtain ⟨b, o, hA, hc⟩ := h3 j (by omega)
  refine ⟨b, o, hA, fun i hi a ha => hc i hi a ?_⟩
  rw [List.getElem?_take_of_lt (by omega)] at ha; exact ha
theorem Rd.dropS {w : World} {b o cap : Nat} {l : List α} {n : Nat} (h : Rd en size w (.slice (some ⟨b, o, none⟩) n cap) l) (k : Nat) (hk : k ≤ l.length) : Rd en size w (.slice (some ⟨b, o + k * size, none⟩) (l.length - k) (cap - k)) (l.drop k) := by
  obtain ⟨A', cap', e, h1, h2, h3, h4⟩ := h
  injection e with e1 _ e3
  subst e1 e3
  refine ⟨some ⟨b, o + k * size, none⟩, cap - k, by rw [List.length_drop], by rw [List.length_drop]; omega, by omega, fun j hj => ?_, fun h => by cases h⟩
  rw [List.length_drop] at hj
  obtain ⟨b', o', hA, hc⟩ := h3 (k + j) (by omega)
  injection hA with hA
  injection hA with hA1 hA2
  subst hA1 hA2
  refine ⟨b, o + k * size, rfl, fun i hi a ha => ?_⟩
  rw [List.getElem?_drop] at ha
  rw [← hc i hi a ha]
  congr 2
  rw [Nat.add_mul]; omega
theorem Rd.empty (w : World) (A : Option Addr) (cap : Nat) (hc : cap ≤ maxLen) (hA : A = none → cap = 0) : Rd en size w (.slice A 0 cap) ([] : List α) := ⟨A, cap, rfl, Nat.zero_le _, hc, fun k hk => by simp at hk, hA⟩
theorem Rd.of_blk {w : World} {g : Nat} {t : TypeId} {l : List α} (h : Blk w g t (l.flatMap en)) (hl : ∀ a, (en a).length = size) (hm : l.length ≤ maxLen) : Rd en size w (.slice (some ⟨g, 0, none⟩) l.length l.length) l := by
  refine ⟨_, _, rfl, Nat.le_refl _, hm, fun k hk => ⟨g, 0, rfl, fun j hj a ha => ?_⟩, fun h => by cases h⟩
  rw [Nat.zero_add, h.cell, flat_get hl l k a ha j hj]
/-- The cells of all elements, one behind the other, from the slice's address on. -/
theorem Rd.news {w : World} {ad : Addr} {l : List α} (h : RowAt en size w (some ad) l) (hl : ∀ a, (en a).length = size) (hs : 0 < size) : ∀ j u, (l.flatMap en)[j]? = some u → w.cell? (ad.add j) = some u := by
  intro j u hu
  have hj : j < l.length * size := by rw [← flat_len hl l]; exact (List.getElem?_eq_some_iff.1 hu).1
  have hk : j / size < l.length := (Nat.div_lt_iff_lt_mul hs).2 hj
  have hjs := Nat.div_add_mod j size
  have hr := Nat.mod_lt j hs
  obtain ⟨b, o, hA, hc⟩ := h (j / size) hk
  injection hA with hA
  subst hA
  have h1 := hc (j % size) hr _ (List.getElem?_eq_getElem hk)
  have h2 := flat_get hl l (j / size) _ (List.getElem?_eq_getElem hk) (j % size) hr
  have e : j / size * size + j % size = j := by rw [Nat.mul_comm]; exact hjs
  rw [e, hu] at h2
  rw [← h2] at h1
  have e2 : (⟨b, o, none⟩ : Addr).add j = ⟨b, o + j / size * size + j % size, none⟩ := by
    rw [Nat.add_assoc, e]; unfold Addr.add; split <;> simp_all
  rw [e2]; exact h1
end

section
variable {P : Program} {ops : Array Oper} {rest : List Oper} {o : Oper} {a : Act} {Q : Exit → Act → World → Prop} {w : World} {α : Type} {en : α → List Value}
/-- 'xs = append(xs, ys...)': ys a slice that reads as a list, wherever it lies. -/
theorem wp_append_rd {K : Act → World → Prop} (s x : Operand) (t : TypeId) (ho : o.op = .call { callee := .builtin .append, args := #[s, x], argTypes := #[t, t] })
    (e : TypeId) (z : Value) (size bytes : Nat) (ht : P.underlying t = some (.slice e)) (hinfo : (P.info? e).map (fun i => (i.zero, i.size, i.bytes)) = some (some z, size, bytes)) (hzs : z.cells.size = size) (hsz : 0 < size)
    (base : Nat) (v : Value) (n : Nat) (xs : List Value) (hs : a.eval s = v) (hown : Owns w base e size v n xs) (src : Value) (hx : a.eval x = src) (l : List α) (hr : Rd en size w src l) (hl : ∀ a, (en a).length = size) (h1 : ∀ a, ∀ u ∈ en a, u.oneCell' = true)
    (h63 : n + l.length ≤ maxLen) (hbytes : (n + l.length) * bytes ≤ 140737488355328) (hbase : base ≤ w.heap.size)
    (h : ∀ v' w', Owns w' base e size v' (n + l.length) (xs ++ l.flatMap en) → Chg (fun g => v.ownBlock = some g) w w' → K (a.put o.dst v') w') : o.wp P a w K Q := by
  obtain ⟨i, hi, hzz⟩ := Option.map_eq_some_iff.1 hinfo
  simp only [Prod.mk.injEq] at hzz
  obtain ⟨hz, hsi, hby⟩ := hzz
  obtain ⟨A, cap, rfl, _, _, hrow, hnil⟩ := hr
  cases A with
  | none =>
    have hc := hnil rfl
    subst hc
    have hl0 : l = [] := by
      cases l with
      | nil => rfl
      | cons y l => obtain ⟨b, o, hA, _⟩ := hrow 0 (by simp); cases hA
    subst hl0
    have hrun := run_append_owned_none (P := P) (w := w) base t o.type e i size ht hi v n xs hown
    unfold Oper.wp
    simp only [execOp, ho, resolve, invoke, builtin, Sem.run_bind, Sem.run_pure, Result.andThen_ok, List.map_toArray, List.map_cons, List.map_nil, hs, hx, List.length_nil, hrun]
    exact h v w (by simpa using hown) (Chg.refl _ _)
  | some ad =>
    exact wp_append_own _ s x t ho base e i z size bytes ht hi hz hsi hby hzs hsz v n xs hs hown ad l.length cap (l.flatMap en) hx (flat_len hl l) (Rd.news hrow hl hsz)
      (fun u hu => by obtain ⟨y, _, hy⟩ := List.mem_flatMap.1 hu; exact h1 y u hy) h63 hbytes hbase (fun v' w' h2 h3 h4 => h v' w' h2 ((Chg.of_grown h3).mono fun g _ hg => hg.symm))
theorem wpList_append_rd (hgd : o.guard = none) (s x : Operand) (t : TypeId) (ho : o.op = .call { callee := .builtin .append, args := #[s, x], argTypes := #[t, t] })
    (e : TypeId) (z : Value) (size bytes : Nat) (ht : P.underlying t = some (.slice e)) (hinfo : (P.info? e).map (fun i => (i.zero, i.size, i.bytes)) = some (some z, size, bytes)) (hzs : z.cells.size = size) (hsz : 0 < size)
    (base : Nat) (v : Value) (n : Nat) (xs : List Value) (hs : a.eval s = v) (hown : Owns w base e size v n xs) (src : Value) (hx : a.eval x = src) (l : List α) (hr : Rd en size w src l) (hl : ∀ a, (en a).length = size) (h1 : ∀ a, ∀ u ∈ en a, u.oneCell' = true)
    (h63 : n + l.length ≤ maxLen) (hbytes : (n + l.length) * bytes ≤ 140737488355328) (hbase : base ≤ w.heap.size)
    (h : ∀ v' w', Owns w' base e size v' (n + l.length) (xs ++ l.flatMap en) → Chg (fun g => v.ownBlock = some g) w w' → wpList P ops Q rest (a.put o.dst v') w') : wpList P ops Q (o :: rest) a w :=
  wpList_plain hgd fun _ hK => wp_append_rd s x t ho e z size bytes ht hinfo hzs hsz base v n xs hs hown src hx l hr hl h1 h63 hbytes hbase fun v' w' h2 h3 => hK _ _ (h v' w' h2 h3)
theorem step_append_rd {K : Act → World → Prop} {E : Prop} (hgd : o.guard = none) (s x : Operand) (t : TypeId) (ho : o.op = .call { callee := .builtin .append, args := #[s, x], argTypes := #[t, t] })
    (e : TypeId) (z : Value) (size bytes : Nat) (ht : P.underlying t = some (.slice e)) (hinfo : (P.info? e).map (fun i => (i.zero, i.size, i.bytes)) = some (some z, size, bytes)) (hzs : z.cells.size = size) (hsz : 0 < size)
    (base : Nat) (v : Value) (n : Nat) (xs : List Value) (hs : a.eval s = v) (hown : Owns w base e size v n xs) (src : Value) (hx : a.eval x = src) (l : List α) (hr : Rd en size w src l) (hl : ∀ a, (en a).length = size) (h1 : ∀ a, ∀ u ∈ en a, u.oneCell' = true)
    (h63 : n + l.length ≤ maxLen) (hbytes : (n + l.length) * bytes ≤ 140737488355328) (hbase : base ≤ w.heap.size)
    (h : ∀ v' w', Owns w' base e size v' (n + l.length) (xs ++ l.flatMap en) → Chg (fun g => v.ownBlock = some g) w w' → K (a.put o.dst v') w') : if Region.wanted o (yielded ops a.tmps) = true then Oper.wp P o a w K Q else E := by
  have hw : Region.wanted o (yielded ops a.tmps) = true := by simp [Region.wanted, hgd]
  rw [if_pos hw]
  exact wp_append_rd s x t ho e z size bytes ht hinfo hzs hsz base v n xs hs hown src hx l hr hl h1 h63 hbytes hbase h
end

end Go.Proofs.Ytpjjijhojcfmnaa
