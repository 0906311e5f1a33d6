/-
  A region that draws its order, whose operations may all be taken in an order of one's own: some leave the world alone under a condition S on it, some are left out by their guard, some stand alone and keep S. No condition.
-/
import Derived.Test.YtcnecjjgnnkjkaaGBase
namespace Go.Proofs.Ytcnecjjgnnkjkaa
open Go.RowKit
set_option linter.unusedVariables false

section
variable {P : Program} {md : Region.Mode} {Q : Exit → Act → World → Prop} {S : World → Prop} {l : List Oper}
/-- These have come up. -/
def doneL (m : Nat) (ds : List Nat) : Array Bool := ds.foldl (fun a i => a.setIfInBounds i true) (Array.replicate m false)
theorem doneL_snoc (m : Nat) (ds : List Nat) (k : Nat) : doneL m (ds ++ [k]) = (doneL m ds).setIfInBounds k true := by simp [doneL, List.foldl_append]
def ordOk (md : Region.Mode) (ops : Array Oper) (ds : List Nat) (k : Nat) : Bool :=
  Region.noSelect ops && Region.free md ops (doneL ops.size ds) k && (Region.ready md ops (doneL ops.size ds)).contains k && decide (ds.length < ops.size)
def ordAlone (md : Region.Mode) (ops : Array Oper) (ds : List Nat) (k : Nat) : Bool :=
  (Region.ready md ops (doneL ops.size ds) == [k]) && decide (ds.length < ops.size)
def wpOrd (P : Program) (md : Region.Mode) (l : List Oper) (Q : Exit → Act → World → Prop) (S : World → Prop) (ds : List Nat) (a : Act) (w : World) : Prop := wpAnyH P md l.toArray Q S (l.toArray.size - ds.length) (doneL l.toArray.size ds) a w
theorem ord_take {ds : List Nat} (k : Nat) {o : Oper} {v : Value} {a : Act} {w : World} (hi : l[k]? = some o) (hB : ordOk md l.toArray ds k = true) (hQ : ∀ c a w, Q (.panic c) (a.put o.dst v) w → Q (.panic c) a w) (hy : YieldsIf P l.toArray S o v a) (hS : S w)
    (h : wpOrd P md l Q S (ds ++ [k]) (a.put o.dst v) w) : wpOrd P md l Q S ds a w := by
  simp only [ordOk, Bool.and_eq_true, decide_eq_true_eq] at hB
  obtain ⟨⟨⟨h1, h2⟩, h3⟩, h5⟩ := hB
  unfold wpOrd at h ⊢
  rw [doneL_snoc, List.length_append, List.length_singleton] at h
  rw [show l.toArray.size - ds.length = l.toArray.size - (ds.length + 1) + 1 by omega]
  exact wpAnyH_take (by simpa using hi) h1 h2 h3 hQ hy hS h
/-- An operation that yields. -/
theorem ord_still {ds : List Nat} (k : Nat) {o : Oper} {v : Value} {a : Act} {w : World} (hi : l[k]? = some o) (hB : ordOk md l.toArray ds k = true) (hQ : ∀ c a w, Q (.panic c) (a.put o.dst v) w → Q (.panic c) a w) (hw : Region.wanted o (yielded l.toArray a.tmps) = true)
    (hy : ∀ w, S w → (execOp a.eval o).run P w = .ok (.value v) w) (hS : S w) (h : wpOrd P md l Q S (ds ++ [k]) (a.put o.dst v) w) : wpOrd P md l Q S ds a w := ord_take k hi hB hQ (.inl ⟨hw, hy⟩) hS h
/-- An operation that its guard leaves out. -/
theorem ord_skip {ds : List Nat} (k : Nat) {o : Oper} {a : Act} {w : World} (hi : l[k]? = some o) (hB : ordOk md l.toArray ds k = true) (hQ : ∀ c a w, Q (.panic c) (a.put o.dst undef) w → Q (.panic c) a w) (hw : Region.wanted o (yielded l.toArray a.tmps) = false)
    (hS : S w) (h : wpOrd P md l Q S (ds ++ [k]) (a.put o.dst undef) w) : wpOrd P md l Q S ds a w := ord_take k hi hB hQ (.inr ⟨hw, rfl⟩) hS h
/-- An operation that stands alone. -/
theorem ord_alone {ds : List Nat} (k : Nat) {o : Oper} {a : Act} {w : World} (hi : l[k]? = some o) (hB : ordAlone md l.toArray ds k = true) (hw : Region.wanted o (yielded l.toArray a.tmps) = true)
    (h : ∀ K : Act → World → Prop, Shut (∀ a w, S w → wpOrd P md l Q S (ds ++ [k]) a w → K a w) → Oper.wp P o a w K Q) : wpOrd P md l Q S ds a w := by
  simp only [ordAlone, Bool.and_eq_true, decide_eq_true_eq, beq_iff_eq] at hB
  obtain ⟨h1, h3⟩ := hB
  unfold wpOrd at h ⊢
  rw [show l.toArray.size - ds.length = l.toArray.size - (ds.length + 1) + 1 by omega]
  refine wpAnyH_ready h1 (by simp) (AllReadyH.cons (by simpa using hi) (fun K' hK => ?_) AllReadyH.nil)
  rw [if_pos hw]
  refine h K' fun a w hS hW => hK.out a w hS fun _ => ?_
  rw [doneL_snoc, List.length_append, List.length_singleton] at hW
  exact hW
theorem ord_done {ds : List Nat} {a : Act} {w : World} (hB : (Region.ready md l.toArray (doneL l.toArray.size ds)).isEmpty = true) (h : Q .normal a w) : wpOrd P md l Q S ds a w := wpAnyH_done (by simpa using hB) h _
theorem wp_region_ord {id : Nat} {a : Act} {w : World} (S : World → Prop) (hm : P.follows .mixedOrders = true) (hS : S w.drew) (h : wpOrd P .any l Q S [] a w.drew) : (Code.region id l.toArray true).wp P Q a w := by
  refine wp_region_held_drew hm hS fun _ => ?_
  unfold wpOrd doneL at h
  simpa using h
end
end Go.Proofs.Ytcnecjjgnnkjkaa
