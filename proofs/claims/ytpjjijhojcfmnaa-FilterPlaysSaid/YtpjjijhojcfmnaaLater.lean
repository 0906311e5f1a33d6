/-
  A region that draws its order, whose operations only read and whose callees turn nothing that was there: walked once, in the order of the text. No condition.
-/
import Derived.Test.YtpjjijhojcfmnaaHeap
import Derived.BigQuiet
import Derived.Deep.QuietTactic
import Derived.StillTailTactics
namespace Go.Proofs.Ytpjjijhojcfmnaa
open Go.RowKit
set_option linter.unusedVariables false

/-- A world behind w in which all that was there is as it was. -/
structure Later (w0 : World) where
  w : World
  below : Below w0.heap.size w0 w
instance (w : World) : Nonempty (Later w) := ⟨⟨w, Below.refl _ _⟩⟩
theorem Later.cell {w : World} (x : Later w) {a : Addr} {v : Value} (h : w.cell? a = some v) : x.w.cell? a = some v := (x.below.cell (World.block_lt_of_cell? w a h)).trans h
theorem Later.blk {w : World} (x : Later w) {g : Nat} {t : TypeId} {cs : List Value} (h : Blk w g t cs) : Blk x.w g t cs := h.below' x.below

/-- A callee that turns nothing that was there. -/
theorem Later.calls {P : Program} {f : FuncId} {args : Array Value} {w : World} {v : Value} (x : Later w) (h : Calls P f args x.w fun e w' => e = .returned v ∧ Below x.w.heap.size x.w w') :
    Calls P f args x.w fun e w'' => e = .returned v ∧ ∃ y : Later w, w'' = y.w :=
  h.mono fun _ w' ⟨he, hb⟩ => ⟨he, ⟨w', held_next x.below hb⟩, rfl⟩
theorem Later.calls_same {P : Program} {f : FuncId} {args : Array Value} {w : World} {v : Value} (x : Later w) (h : Calls P f args x.w fun e w' => e = .returned v ∧ x.w = w') :
    Calls P f args x.w fun e w'' => e = .returned v ∧ ∃ y : Later w, w'' = y.w :=
  h.mono fun _ w' ⟨he, hb⟩ => ⟨he, x, hb.symm⟩

theorem wp_region_later {P : Program} {id : Nat} {Q : Exit → Act → World → Prop} {a : Act} {w : World} {l : List Oper} (S : World → Prop) (hS : ∀ x : Later w, S x.w) (hm : P.follows .mixedOrders = true) (hB : Region.lexB .any l.toArray = true)
    (h : (∀ x : Later w, S x.w) → wpQuiet P l.toArray (fun w' => ∃ x : Later w, w' = x.w) (fun a' => ∀ w', (∃ x : Later w, w' = x.w) → Q .normal a' w') l a) : (Code.region id l.toArray true).wp P Q a w :=
  wp_region_quiet (C := fun w' => ∃ x : Later w, w' = x.w) hm hB ⟨⟨w.drew, (Below.refl _ _).drew⟩, rfl⟩ (by simpa using h hS)

/-- A region whose first n operations leave the world alone, and whose others stand in a row behind them. -/
theorem wp_region_tail {P : Program} {id : Nat} {Q : Exit → Act → World → Prop} {a : Act} {w : World} {l : List Oper} (n : Nat) (hm : P.follows .mixedOrders = true) (hB : Region.lexTailB .any l.toArray n = true)
    (h : wpStill P l.toArray w.drew (fun a' => wpList P l.toArray Q (l.drop n) a' w.drew) (l.take n) a) : (Code.region id l.toArray true).wp P Q a w :=
  wp_region_still_tail n hm hB h
theorem still_of {P : Program} {f : FuncId} {args : Array Value} {w : World} {v : Value} (h : Calls P f args w fun e w' => e = .returned v ∧ w = w') : Calls P f args w fun e w' => e = .returned v ∧ w' = w :=
  h.mono fun _ _ h => ⟨h.1, h.2.symm⟩

end Go.Proofs.Ytpjjijhojcfmnaa
