/-
  Slices that a call has built by append: one more element, of however many cells; what is read of them. No condition.
-/
import Derived.Test.YtpjjijhojcfmnaaLater
import Derived.Laws.AppendOwn
import Derived.OwnWalk
namespace Go.Proofs.Ytpjjijhojcfmnaa
open Go.RowKit
set_option linter.unusedVariables false
set_option linter.unusedSimpArgs false

/-- The slice v, of n elements of size cells, all told the cells xs, is the call's own (from block base on). -/
abbrev Owns (w : World) (base : Nat) (e : TypeId) (size : Nat) (v : Value) (n : Nat) (xs : List Value) : Prop := w.ownsRow base e size v n xs

theorem Owns.nil (w : World) (base : Nat) (e : TypeId) (size : Nat) : Owns w base e size (.slice none 0 0) 0 [] := ⟨by simp, .inl ⟨rfl, rfl⟩⟩
/-- What it looks like. -/
theorem Owns.form {w : World} {base : Nat} {e : TypeId} {size n : Nat} {v : Value} {xs : List Value} (h : Owns w base e size v n xs) :
    ∃ (A : Option Addr) (cap : Nat), v = .slice A n cap ∧ n ≤ cap ∧ cap ≤ maxLen ∧ (0 < n → ∃ g, A = some ⟨g, 0, none⟩ ∧ base ≤ g ∧ g < w.heap.size ∧ ∀ j, j < n * size → w.cell? ⟨g, j, none⟩ = xs[j]?) := by
  obtain ⟨h1, h2⟩ := h
  rcases h2 with ⟨rfl, rfl⟩ | ⟨g, cap, cur, rfl, hb, hh, hn, hm, hs, ht⟩
  · exact ⟨none, 0, rfl, Nat.le_refl _, by unfold maxLen; omega, fun h => by omega⟩
  · refine ⟨some ⟨g, 0, none⟩, cap, rfl, hn, hm, fun _ => ⟨g, rfl, hb, lt_of_block hh, fun j hj => ?_⟩⟩
    have : w.cell? ⟨g, j, none⟩ = cur[j]? := by unfold World.cell?; simp only [hh]; rfl
    rw [this, ← ht, List.getElem?_take_of_lt hj]; simp
theorem Owns.chg {w w' : World} {base : Nat} {e : TypeId} {size n : Nat} {v : Value} {xs : List Value} {S : Nat → Prop} (h : Owns w base e size v n xs) (k : Chg S w w') (hS : ∀ g, v.ownBlock = some g → ¬ S g) : Owns w' base e size v n xs := by
  obtain ⟨h1, h2⟩ := h
  refine ⟨h1, ?_⟩
  rcases h2 with h2 | ⟨g, cap, cur, rfl, hb, hh, r⟩
  · exact .inl h2
  · exact .inr ⟨g, cap, cur, rfl, hb, (k.block g (lt_of_block hh) (hS g rfl)).trans hh, r⟩
theorem Owns.below {w w' : World} {base : Nat} {e : TypeId} {size n : Nat} {v : Value} {xs : List Value} (h : Owns w base e size v n xs) (k : Below w.heap.size w w') : Owns w' base e size v n xs := h.chg (Chg.of_below k fun _ => False) fun _ _ h => h
theorem Owns.base_le {w : World} {base : Nat} {e : TypeId} {size n : Nat} {v : Value} {xs : List Value} (h : Owns w base e size v n xs) (g : Nat) (hg : v.ownBlock = some g) : base ≤ g ∧ g < w.heap.size := by
  obtain ⟨h1, h2⟩ := h
  rcases h2 with ⟨rfl, rfl⟩ | ⟨g', cap, cur, rfl, hb, hh, r⟩
  · simp [Value.ownBlock] at hg
  · simp [Value.ownBlock] at hg; subst hg; exact ⟨hb, lt_of_block hh⟩
theorem Owns.lower {w : World} {base b : Nat} {e : TypeId} {size n : Nat} {v : Value} {xs : List Value} (h : Owns w base e size v n xs) (hb : b ≤ base) : Owns w b e size v n xs := by
  obtain ⟨h1, h2⟩ := h
  refine ⟨h1, ?_⟩
  rcases h2 with h2 | ⟨g, cap, cur, rfl, hb', r⟩
  · exact .inl h2
  · exact .inr ⟨g, cap, cur, rfl, by omega, r⟩
theorem Owns.new (w : World) (us : List Value) (e : TypeId) (size m base : Nat) (hl : us.length = m * size) (hm : m ≤ maxLen) (hb : base ≤ w.heap.size) : Owns (w.alloc (.cells us.toArray e)) base e size (.slice (some ⟨w.heap.size, 0, none⟩) m m) m us :=
  ⟨hl, .inr ⟨w.heap.size, m, us.toArray, rfl, hb, heap_alloc_new _ _, Nat.le_refl _, hm, by simpa using hl, by rw [← hl]; simp⟩⟩
section
variable {P : Program} {ops : Array Oper} {rest : List Oper} {o : Oper} {a : Act} {Q : Exit → Act → World → Prop} {w : World}
/-- 'xs = append(xs, x)': x lies in a block of its own, laid just before. -/
theorem wpList_push (hgd : o.guard = none) (s x : Operand) (t : TypeId) (ho : o.op = .call { callee := .builtin .append, args := #[s, x], argTypes := #[t, t] })
    (e : TypeId) (z : Value) (size bytes : Nat) (ht : P.underlying t = some (.slice e)) (hinfo : (P.info? e).map (fun i => (i.zero, i.size, i.bytes)) = some (some z, size, bytes)) (hzs : z.cells.size = size) (hsz : 0 < size)
    (base : Nat) (v : Value) (n : Nat) (xs : List Value) (hs : a.eval s = v) (hown : Owns w base e size v n xs) (us : List Value) (hx : a.eval x = .slice (some ⟨w.heap.size, 0, none⟩) 1 1) (hl : us.length = size) (h1 : ∀ u ∈ us, u.oneCell' = true)
    (h63 : n + 1 ≤ maxLen) (hbytes : (n + 1) * bytes ≤ 140737488355328) (hbase : base ≤ w.heap.size)
    (h : ∀ v' w', Owns w' base e size v' (n + 1) (xs ++ us) → Chg (fun g => v.ownBlock = some g) w w' → wpList P ops Q rest (a.put o.dst v') w') : wpList P ops Q (o :: rest) a (w.alloc (.cells us.toArray e)) := by
  obtain ⟨i, hi, hzz⟩ := Option.map_eq_some_iff.1 hinfo
  simp only [Prod.mk.injEq] at hzz
  obtain ⟨hz, hsi, hby⟩ := hzz
  refine wpList_append_own _ hgd s x t ho base e i z size bytes ht hi hz hsi hby hzs hsz v n xs hs (Owns.chg hown ((Chg.refl (fun _ => False) w).alloc _) fun _ _ h => h) ⟨w.heap.size, 0, none⟩ 1 1 us hx (by simpa using hl)
    (fun j u hj => ?_) h1 h63 hbytes (by simp; omega) (fun v' w' h2 h3 h4 => h v' w' h2 ?_)
  · have : (⟨w.heap.size, 0, none⟩ : Addr).add j = ⟨w.heap.size, j, none⟩ := by simp only [Addr.add]; split <;> simp_all
    rw [this]
    exact new_cell w us.toArray e _ rfl j u (by simpa using hj)
  · exact ((Chg.refl (fun g => v.ownBlock = some g) w).alloc _).trans (Chg.of_grown h3) fun g _ hg => hg.symm
/-- 'xs = append(xs, x, ..)': m elements lie in a block of their own, laid just before; H is that block's number as the walk spells it. -/
theorem wpList_pushm (hgd : o.guard = none) (s x : Operand) (t : TypeId) (ho : o.op = .call { callee := .builtin .append, args := #[s, x], argTypes := #[t, t] })
    (e : TypeId) (z : Value) (size bytes : Nat) (ht : P.underlying t = some (.slice e)) (hinfo : (P.info? e).map (fun i => (i.zero, i.size, i.bytes)) = some (some z, size, bytes)) (hzs : z.cells.size = size) (hsz : 0 < size)
    (base : Nat) (v : Value) (n : Nat) (xs : List Value) (hs : a.eval s = v) (hown : Owns w base e size v n xs) (H : Nat) (hH : w.heap.size = H) (m : Nat) (us : List Value) (hx : a.eval x = .slice (some ⟨H, 0, none⟩) m m) (hl : us.length = m * size) (h1 : ∀ u ∈ us, u.oneCell' = true)
    (h63 : n + m ≤ maxLen) (hbytes : (n + m) * bytes ≤ 140737488355328) (hbase : base ≤ w.heap.size)
    (h : ∀ v' w', Owns w' base e size v' (n + m) (xs ++ us) → Chg (fun g => v.ownBlock = some g) w w' → wpList P ops Q rest (a.put o.dst v') w') : wpList P ops Q (o :: rest) a (w.alloc (.cells us.toArray e)) := by
  subst hH
  obtain ⟨i, hi, hzz⟩ := Option.map_eq_some_iff.1 hinfo
  simp only [Prod.mk.injEq] at hzz
  obtain ⟨hz, hsi, hby⟩ := hzz
  refine wpList_append_own _ hgd s x t ho base e i z size bytes ht hi hz hsi hby hzs hsz v n xs hs (Owns.chg hown ((Chg.refl (fun _ => False) w).alloc _) fun _ _ h => h) ⟨w.heap.size, 0, none⟩ m m us hx hl
    (fun j u hj => ?_) h1 h63 hbytes (by simp; omega) (fun v' w' h2 h3 h4 => h v' w' h2 ?_)
  · have : (⟨w.heap.size, 0, none⟩ : Addr).add j = ⟨w.heap.size, j, none⟩ := by simp only [Addr.add]; split <;> simp_all
    rw [this]
    exact new_cell w us.toArray e _ rfl j u (by simpa using hj)
  · exact ((Chg.refl (fun g => v.ownBlock = some g) w).alloc _).trans (Chg.of_grown h3) fun g _ hg => hg.symm
/-- The same at a step of a region that draws its order. -/
theorem step_pushm {K : Act → World → Prop} {E : Prop} (hgd : o.guard = none) (s x : Operand) (t : TypeId) (ho : o.op = .call { callee := .builtin .append, args := #[s, x], argTypes := #[t, t] })
    (e : TypeId) (z : Value) (size bytes : Nat) (ht : P.underlying t = some (.slice e)) (hinfo : (P.info? e).map (fun i => (i.zero, i.size, i.bytes)) = some (some z, size, bytes)) (hzs : z.cells.size = size) (hsz : 0 < size)
    (base : Nat) (v : Value) (n : Nat) (xs : List Value) (hs : a.eval s = v) (hown : Owns w base e size v n xs) (H : Nat) (hH : w.heap.size = H) (m : Nat) (us : List Value) (hx : a.eval x = .slice (some ⟨H, 0, none⟩) m m) (hl : us.length = m * size) (h1 : ∀ u ∈ us, u.oneCell' = true)
    (h63 : n + m ≤ maxLen) (hbytes : (n + m) * bytes ≤ 140737488355328) (hbase : base ≤ w.heap.size)
    (h : ∀ v' w', Owns w' base e size v' (n + m) (xs ++ us) → Chg (fun g => v.ownBlock = some g) w w' → K (a.put o.dst v') w') : if Region.wanted o (yielded ops a.tmps) = true then Oper.wp P o a (w.alloc (.cells us.toArray e)) K Q else E := by
  subst hH
  have hw : Region.wanted o (yielded ops a.tmps) = true := by simp [Region.wanted, hgd]
  rw [if_pos hw]
  obtain ⟨i, hi, hzz⟩ := Option.map_eq_some_iff.1 hinfo
  simp only [Prod.mk.injEq] at hzz
  obtain ⟨hz, hsi, hby⟩ := hzz
  refine wp_append_own _ s x t ho base e i z size bytes ht hi hz hsi hby hzs hsz v n xs hs (Owns.chg hown ((Chg.refl (fun _ => False) w).alloc _) fun _ _ h => h) ⟨w.heap.size, 0, none⟩ m m us hx hl
    (fun j u hj => ?_) h1 h63 hbytes (by simp; omega) (fun v' w' h2 h3 h4 => h v' w' h2 ?_)
  · have : (⟨w.heap.size, 0, none⟩ : Addr).add j = ⟨w.heap.size, j, none⟩ := by simp only [Addr.add]; split <;> simp_all
    rw [this]
    exact new_cell w us.toArray e _ rfl j u (by simpa using hj)
  · exact ((Chg.refl (fun g => v.ownBlock = some g) w).alloc _).trans (Chg.of_grown h3) fun g _ hg => hg.symm
end

end Go.Proofs.Ytpjjijhojcfmnaa
