/-
  'xs = append(xs, ys...)' where only what ys holds need be of single cells; commands. No condition.
-/
import Derived.Test.YtcnecjjgnnkjkaaBatchM
import Derived.Test.YtcnecjjgnnkjkaaOwnIn
namespace Go.Proofs.Ytcnecjjgnnkjkaa
open Go.RowKit
set_option linter.unusedVariables false
set_option linter.unusedSimpArgs false

section
variable {P : Program} {o : Oper} {a : Act} {Q : Exit → Act → World → Prop} {w : World} {α : Type} {en : α → List Value}
/-- 'xs = append(xs, ys...)', one operation; only what ys holds need be of single cells. -/
theorem wp_append_rdl {K : Act → World → Prop} (s x : Operand) (t : TypeId) (ho : o.op = .call { callee := .builtin .append, args := #[s, x], argTypes := #[t, t] })
    (e : TypeId) (z : Value) (size bytes : Nat) (ht : P.underlying t = some (.slice e)) (hinfo : (P.info? e).map (fun i => (i.zero, i.size, i.bytes)) = some (some z, size, bytes)) (hzs : z.cells.size = size) (hsz : 0 < size)
    (base : Nat) (v : Value) (n : Nat) (xs : List Value) (hs : a.eval s = v) (hown : Owns w base e size v n xs) (src : Value) (hx : a.eval x = src) (l : List α) (hr : Rd en size w src l) (hl : ∀ a, (en a).length = size) (h1 : ∀ a ∈ l, ∀ u ∈ en a, u.oneCell' = true)
    (h63 : n + l.length ≤ maxLen) (hbytes : (n + l.length) * bytes ≤ 140737488355328) (hbase : base ≤ w.heap.size)
    (h : ∀ v' w', Owns w' base e size v' (n + l.length) (xs ++ l.flatMap en) → Chg (fun g => v.ownBlock = some g) w w' → K (a.put o.dst v') w') : o.wp P a w K Q := by
  obtain ⟨i, hi, hzz⟩ := Option.map_eq_some_iff.1 hinfo
  simp only [Prod.mk.injEq] at hzz
  obtain ⟨hz, hsi, hby⟩ := hzz
  obtain ⟨A, cap, rfl, _, _, hrow, hnil⟩ := hr
  cases A with
  | none =>
    have hc := hnil rfl
    subst hc
    have hl0 : l = [] := by
      cases l with
      | nil => rfl
      | cons y l => obtain ⟨b, o, hA, _⟩ := hrow 0 (by simp); cases hA
    subst hl0
    have hrun := run_append_owned_none (P := P) (w := w) base t o.type e i size ht hi v n xs hown
    unfold Oper.wp
    simp only [execOp, ho, resolve, invoke, builtin, Sem.run_bind, Sem.run_pure, Result.andThen_ok, List.map_toArray, List.map_cons, List.map_nil, hs, hx, List.length_nil, hrun]
    exact h v w (by simpa using hown) (Chg.refl _ _)
  | some ad =>
    exact wp_append_own _ s x t ho base e i z size bytes ht hi hz hsi hby hzs hsz v n xs hs hown ad l.length cap (l.flatMap en) hx (flat_len hl l) (Rd.news hrow hl hsz)
      (fun u hu => by obtain ⟨y, hyl, hy⟩ := List.mem_flatMap.1 hu; exact h1 y hyl u hy) h63 hbytes hbase (fun v' w' h2 h3 h4 => h v' w' h2 ((Chg.of_grown h3).mono fun g _ hg => hg.symm))
variable {ops : Array Oper} {rest : List Oper}
theorem wpList_append_rdl (hgd : o.guard = none) (s x : Operand) (t : TypeId) (ho : o.op = .call { callee := .builtin .append, args := #[s, x], argTypes := #[t, t] })
    (e : TypeId) (z : Value) (size bytes : Nat) (ht : P.underlying t = some (.slice e)) (hinfo : (P.info? e).map (fun i => (i.zero, i.size, i.bytes)) = some (some z, size, bytes)) (hzs : z.cells.size = size) (hsz : 0 < size)
    (base : Nat) (v : Value) (n : Nat) (xs : List Value) (hs : a.eval s = v) (hown : Owns w base e size v n xs) (src : Value) (hx : a.eval x = src) (l : List α) (hr : Rd en size w src l) (hl : ∀ a, (en a).length = size) (h1 : ∀ a ∈ l, ∀ u ∈ en a, u.oneCell' = true)
    (h63 : n + l.length ≤ maxLen) (hbytes : (n + l.length) * bytes ≤ 140737488355328) (hbase : base ≤ w.heap.size)
    (h : ∀ v' w', Owns w' base e size v' (n + l.length) (xs ++ l.flatMap en) → Chg (fun g => v.ownBlock = some g) w w' → wpList P ops Q rest (a.put o.dst v') w') : wpList P ops Q (o :: rest) a w :=
  wpList_plain hgd fun _ hK => wp_append_rdl s x t ho e z size bytes ht hinfo hzs hsz base v n xs hs hown src hx l hr hl h1 h63 hbytes hbase fun v' w' h2 h3 => hK _ _ (h v' w' h2 h3)
end
theorem cm_rowL : (Try.prog.info? 53).map (fun i => (i.zero, i.size, i.bytes)) = some (some (.agg #[.int .i64 0, .int .i64 0, .int .i64 0, .int .u64 0, .int .u64 0, .int .i64 0, .int .u64 0, .int .u64 0, .int .u64 0, .slice none 0 0]), 10, 96) := by kernel_rfl
end Go.Proofs.Ytcnecjjgnnkjkaa
