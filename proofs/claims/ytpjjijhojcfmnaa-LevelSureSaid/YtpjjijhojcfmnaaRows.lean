/-
  No cell of these rows narrows 'for every input' (looked for: loops, veiled, ifaces, maps, wideKeys, modest, calm, conditions, laid).
  DERIVED. THE GIVEN ROWS OF THIS SEAT. 11 by the template 'for every input the law returns true; each argument reads behind the call as it read before'; 0 by the template 'total and deterministic' (their statements: YtpjjijhojcfmnaaTotals.lean).
  GIVEN WITH THE SEED: the statements are not yours to turn. If you find one false, say at which input.
  Laid BY PROGRAM, IN A SANDBOX (cutbox-rows.mjs): the forced cells as the released guide's own fill.sh prints them over the translation 9c95ff76aa741c0f… (all of the seat's roots in one cut). By AI agents, Wed Nov 11 2026. No macro, syntax, notation, axiom, sorry.
-/
import Derived.Test.YtpjjijhojcfmnaaChecked
import GoSem.Claim
import GoSem.ClaimJoined
import GoSem.ClaimMapViews
import Derived.JoinedTies
import Derived.KernelRfl
namespace Go.Proofs.Ytpjjijhojcfmnaa
/- THE CELL 'sum', in the pinned program and in every row, IS THE sha256 OF THE DUMP (.gsa) THAT YtpjjijhojcfmnaaProg.lean LOADS. Nothing in Lean hashes anything: it is a label: what it is worth is what the hold of that sum in a sandbox is worth. -/
noncomputable def Try.pinned : Pinned := { name := "ytpjjijhojcfmnaa", sum := "9c95ff76aa741c0fff57aa71ef81f374eb6d10cfdbc476adc2593875a60180a6", checked := Try.checked }
namespace Rows
def none {H : Type} : Left H := { results := [], args := [] }

/-- 'flocculuslaw9.FilterKeeps': WHATEVER THE INPUT: true; the input reads as it did. -/
def filterKeepsSpec : ChangeSpec := { name := "filterKeeps", fn := fun _ => fun
  | [d1, d2, d3, d4, d5] => { results := [.lit (.bool true)], args := [d1, d2, d3, d4, d5] }
  | _ => none }
def filterKeepsRow : OpenClaim := { program := "ytpjjijhojcfmnaa", sum := "9c95ff76aa741c0fff57aa71ef81f374eb6d10cfdbc476adc2593875a60180a6", func := "flocculus/flocculuslaw9.FilterKeeps", spec := "filterKeeps", apart := false }
def FilterKeepsSaid : Prop := filterKeepsRow.holds Try.pinned (OpenSpec.ofChange filterKeepsSpec)

/-- ITS FALSE NEIGHBOUR: 'it returns false'. Refute it at one input. -/
def filterKeepsWrong : ChangeSpec := { name := "filterKeeps", fn := fun _ => fun
  | [d1, d2, d3, d4, d5] => { results := [.lit (.bool false)], args := [d1, d2, d3, d4, d5] }
  | _ => none }
def FilterKeepsWrongFalsely : Prop := filterKeepsRow.holds Try.pinned (OpenSpec.ofChange filterKeepsWrong)

/-- 'flocculuslaw9.FilterOrder': WHATEVER THE INPUT: true; the input reads as it did. -/
def filterOrderSpec : ChangeSpec := { name := "filterOrder", fn := fun _ => fun
  | [d1, d2, d3, d4] => { results := [.lit (.bool true)], args := [d1, d2, d3, d4] }
  | _ => none }
def filterOrderRow : OpenClaim := { program := "ytpjjijhojcfmnaa", sum := "9c95ff76aa741c0fff57aa71ef81f374eb6d10cfdbc476adc2593875a60180a6", func := "flocculus/flocculuslaw9.FilterOrder", spec := "filterOrder", apart := false }
def FilterOrderSaid : Prop := filterOrderRow.holds Try.pinned (OpenSpec.ofChange filterOrderSpec)

/-- ITS FALSE NEIGHBOUR: 'it returns false'. Refute it at one input. -/
def filterOrderWrong : ChangeSpec := { name := "filterOrder", fn := fun _ => fun
  | [d1, d2, d3, d4] => { results := [.lit (.bool false)], args := [d1, d2, d3, d4] }
  | _ => none }
def FilterOrderWrongFalsely : Prop := filterOrderRow.holds Try.pinned (OpenSpec.ofChange filterOrderWrong)

/-- 'flocculuslaw9.FilterPlays': WHATEVER THE INPUT: true; the input reads as it did. -/
def filterPlaysSpec : ChangeSpec := { name := "filterPlays", fn := fun _ => fun
  | [d1, d2, d3, d4, d5] => { results := [.lit (.bool true)], args := [d1, d2, d3, d4, d5] }
  | _ => none }
def filterPlaysRow : OpenClaim := { program := "ytpjjijhojcfmnaa", sum := "9c95ff76aa741c0fff57aa71ef81f374eb6d10cfdbc476adc2593875a60180a6", func := "flocculus/flocculuslaw9.FilterPlays", spec := "filterPlays", apart := false }
def FilterPlaysSaid : Prop := filterPlaysRow.holds Try.pinned (OpenSpec.ofChange filterPlaysSpec)

/-- ITS FALSE NEIGHBOUR: 'it returns false'. Refute it at one input. -/
def filterPlaysWrong : ChangeSpec := { name := "filterPlays", fn := fun _ => fun
  | [d1, d2, d3, d4, d5] => { results := [.lit (.bool false)], args := [d1, d2, d3, d4, d5] }
  | _ => none }
def FilterPlaysWrongFalsely : Prop := filterPlaysRow.holds Try.pinned (OpenSpec.ofChange filterPlaysWrong)

/-- 'flocculuslaw9.FilterCounts': WHATEVER THE INPUT: true; the input reads as it did. -/
def filterCountsSpec : ChangeSpec := { name := "filterCounts", fn := fun _ => fun
  | [d1, d2, d3, d4, d5] => { results := [.lit (.bool true)], args := [d1, d2, d3, d4, d5] }
  | _ => none }
def filterCountsRow : OpenClaim := { program := "ytpjjijhojcfmnaa", sum := "9c95ff76aa741c0fff57aa71ef81f374eb6d10cfdbc476adc2593875a60180a6", func := "flocculus/flocculuslaw9.FilterCounts", spec := "filterCounts", apart := false }
def FilterCountsSaid : Prop := filterCountsRow.holds Try.pinned (OpenSpec.ofChange filterCountsSpec)

/-- ITS FALSE NEIGHBOUR: 'it returns false'. Refute it at one input. -/
def filterCountsWrong : ChangeSpec := { name := "filterCounts", fn := fun _ => fun
  | [d1, d2, d3, d4, d5] => { results := [.lit (.bool false)], args := [d1, d2, d3, d4, d5] }
  | _ => none }
def FilterCountsWrongFalsely : Prop := filterCountsRow.holds Try.pinned (OpenSpec.ofChange filterCountsWrong)

/-- 'flocculuslaw12.CuckooGrows': WHATEVER THE INPUT: true; the input reads as it did. -/
def cuckooGrowsSpec : ChangeSpec := { name := "cuckooGrows", fn := fun _ => fun
  | [d1, d2] => { results := [.lit (.bool true)], args := [d1, d2] }
  | _ => none }
def cuckooGrowsRow : OpenClaim := { program := "ytpjjijhojcfmnaa", sum := "9c95ff76aa741c0fff57aa71ef81f374eb6d10cfdbc476adc2593875a60180a6", func := "flocculus/flocculuslaw12.CuckooGrows", spec := "cuckooGrows", inPlace := ["slices.overlaps[flocculus/api.Route]"], unfollowed := true, recurses := true, apart := false }
def CuckooGrowsSaid : Prop := cuckooGrowsRow.holds Try.pinned (OpenSpec.ofChange cuckooGrowsSpec)

/-- ITS FALSE NEIGHBOUR: 'it returns false'. Refute it at one input. -/
def cuckooGrowsWrong : ChangeSpec := { name := "cuckooGrows", fn := fun _ => fun
  | [d1, d2] => { results := [.lit (.bool false)], args := [d1, d2] }
  | _ => none }
def CuckooGrowsWrongFalsely : Prop := cuckooGrowsRow.holds Try.pinned (OpenSpec.ofChange cuckooGrowsWrong)

/-- 'flocculuslaw12.CuckooReplaces': WHATEVER THE INPUT: true; the input reads as it did. -/
def cuckooReplacesSpec : ChangeSpec := { name := "cuckooReplaces", fn := fun _ => fun
  | [d1, d2, d3, d4] => { results := [.lit (.bool true)], args := [d1, d2, d3, d4] }
  | _ => none }
def cuckooReplacesRow : OpenClaim := { program := "ytpjjijhojcfmnaa", sum := "9c95ff76aa741c0fff57aa71ef81f374eb6d10cfdbc476adc2593875a60180a6", func := "flocculus/flocculuslaw12.CuckooReplaces", spec := "cuckooReplaces", inPlace := ["slices.overlaps[flocculus/api.Route]"], unfollowed := true, recurses := true, apart := false }
def CuckooReplacesSaid : Prop := cuckooReplacesRow.holds Try.pinned (OpenSpec.ofChange cuckooReplacesSpec)

/-- ITS FALSE NEIGHBOUR: 'it returns false'. Refute it at one input. -/
def cuckooReplacesWrong : ChangeSpec := { name := "cuckooReplaces", fn := fun _ => fun
  | [d1, d2, d3, d4] => { results := [.lit (.bool false)], args := [d1, d2, d3, d4] }
  | _ => none }
def CuckooReplacesWrongFalsely : Prop := cuckooReplacesRow.holds Try.pinned (OpenSpec.ofChange cuckooReplacesWrong)

/-- 'flocculuslaw12.CuckooPlays': WHATEVER THE INPUT: true; the input reads as it did. -/
def cuckooPlaysSpec : ChangeSpec := { name := "cuckooPlays", fn := fun _ => fun
  | [d1, d2, d3, d4] => { results := [.lit (.bool true)], args := [d1, d2, d3, d4] }
  | _ => none }
def cuckooPlaysRow : OpenClaim := { program := "ytpjjijhojcfmnaa", sum := "9c95ff76aa741c0fff57aa71ef81f374eb6d10cfdbc476adc2593875a60180a6", func := "flocculus/flocculuslaw12.CuckooPlays", spec := "cuckooPlays", inPlace := ["slices.overlaps[flocculus/api.Route]"], unfollowed := true, recurses := true, apart := false }
def CuckooPlaysSaid : Prop := cuckooPlaysRow.holds Try.pinned (OpenSpec.ofChange cuckooPlaysSpec)

/-- ITS FALSE NEIGHBOUR: 'it returns false'. Refute it at one input. -/
def cuckooPlaysWrong : ChangeSpec := { name := "cuckooPlays", fn := fun _ => fun
  | [d1, d2, d3, d4] => { results := [.lit (.bool false)], args := [d1, d2, d3, d4] }
  | _ => none }
def CuckooPlaysWrongFalsely : Prop := cuckooPlaysRow.holds Try.pinned (OpenSpec.ofChange cuckooPlaysWrong)

/-- 'flocculuslaw12.CuckooKeeps': WHATEVER THE INPUT: true; the input reads as it did. -/
def cuckooKeepsSpec : ChangeSpec := { name := "cuckooKeeps", fn := fun _ => fun
  | [d1, d2, d3] => { results := [.lit (.bool true)], args := [d1, d2, d3] }
  | _ => none }
def cuckooKeepsRow : OpenClaim := { program := "ytpjjijhojcfmnaa", sum := "9c95ff76aa741c0fff57aa71ef81f374eb6d10cfdbc476adc2593875a60180a6", func := "flocculus/flocculuslaw12.CuckooKeeps", spec := "cuckooKeeps", inPlace := ["slices.overlaps[flocculus/api.Route]"], unfollowed := true, recurses := true, apart := false }
def CuckooKeepsSaid : Prop := cuckooKeepsRow.holds Try.pinned (OpenSpec.ofChange cuckooKeepsSpec)

/-- ITS FALSE NEIGHBOUR: 'it returns false'. Refute it at one input. -/
def cuckooKeepsWrong : ChangeSpec := { name := "cuckooKeeps", fn := fun _ => fun
  | [d1, d2, d3] => { results := [.lit (.bool false)], args := [d1, d2, d3] }
  | _ => none }
def CuckooKeepsWrongFalsely : Prop := cuckooKeepsRow.holds Try.pinned (OpenSpec.ofChange cuckooKeepsWrong)

/-- 'flocculuslaw21.LevelSure': WHATEVER THE INPUT: true; the input reads as it did. -/
def levelSureSpec : ChangeSpec := { name := "levelSure", fn := fun _ => fun
  | [d1, d2, d3, d4, d5, d6] => { results := [.lit (.bool true)], args := [d1, d2, d3, d4, d5, d6] }
  | _ => none }
def levelSureRow : OpenClaim := { program := "ytpjjijhojcfmnaa", sum := "9c95ff76aa741c0fff57aa71ef81f374eb6d10cfdbc476adc2593875a60180a6", func := "flocculus/flocculuslaw21.LevelSure", spec := "levelSure", inPlace := ["slices.overlaps[flocculus/api.Route]"], unfollowed := true, recurses := true, apart := false }
def LevelSureSaid : Prop := levelSureRow.holds Try.pinned (OpenSpec.ofChange levelSureSpec)

/-- ITS FALSE NEIGHBOUR: 'it returns false'. Refute it at one input. -/
def levelSureWrong : ChangeSpec := { name := "levelSure", fn := fun _ => fun
  | [d1, d2, d3, d4, d5, d6] => { results := [.lit (.bool false)], args := [d1, d2, d3, d4, d5, d6] }
  | _ => none }
def LevelSureWrongFalsely : Prop := levelSureRow.holds Try.pinned (OpenSpec.ofChange levelSureWrong)

/-- 'flocculuslaw18.CoverTells': WHATEVER THE INPUT: true; the input reads as it did. -/
def coverTellsSpec : ChangeSpec := { name := "coverTells", fn := fun _ => fun
  | [d1, d2, d3, d4] => { results := [.lit (.bool true)], args := [d1, d2, d3, d4] }
  | _ => none }
def coverTellsRow : OpenClaim := { program := "ytpjjijhojcfmnaa", sum := "9c95ff76aa741c0fff57aa71ef81f374eb6d10cfdbc476adc2593875a60180a6", func := "flocculus/flocculuslaw18.CoverTells", spec := "coverTells", unfollowed := true, recurses := true, apart := false }
def CoverTellsSaid : Prop := coverTellsRow.holds Try.pinned (OpenSpec.ofChange coverTellsSpec)

/-- ITS FALSE NEIGHBOUR: 'it returns false'. Refute it at one input. -/
def coverTellsWrong : ChangeSpec := { name := "coverTells", fn := fun _ => fun
  | [d1, d2, d3, d4] => { results := [.lit (.bool false)], args := [d1, d2, d3, d4] }
  | _ => none }
def CoverTellsWrongFalsely : Prop := coverTellsRow.holds Try.pinned (OpenSpec.ofChange coverTellsWrong)

/-- 'flocculuslaw19.DeltaTells': WHATEVER THE INPUT: true; the input reads as it did. -/
def deltaTellsSpec : ChangeSpec := { name := "deltaTells", fn := fun _ => fun
  | [d1, d2, d3, d4, d5, d6] => { results := [.lit (.bool true)], args := [d1, d2, d3, d4, d5, d6] }
  | _ => none }
def deltaTellsRow : OpenClaim := { program := "ytpjjijhojcfmnaa", sum := "9c95ff76aa741c0fff57aa71ef81f374eb6d10cfdbc476adc2593875a60180a6", func := "flocculus/flocculuslaw19.DeltaTells", spec := "deltaTells", unfollowed := true, recurses := true, apart := false }
def DeltaTellsSaid : Prop := deltaTellsRow.holds Try.pinned (OpenSpec.ofChange deltaTellsSpec)

/-- ITS FALSE NEIGHBOUR: 'it returns false'. Refute it at one input. -/
def deltaTellsWrong : ChangeSpec := { name := "deltaTells", fn := fun _ => fun
  | [d1, d2, d3, d4, d5, d6] => { results := [.lit (.bool false)], args := [d1, d2, d3, d4, d5, d6] }
  | _ => none }
def DeltaTellsWrongFalsely : Prop := deltaTellsRow.holds Try.pinned (OpenSpec.ofChange deltaTellsWrong)

/- THE SECOND FORM. 'bulk': how many values and letters a reading holds, each counted each time it is reached (what is shared counts as often as it is met; a slice's spare places count too). A statement '..UptoSaid' is the law's where the arguments, and the package variables that the reading takes, are together of bulk at most 1048576: NARROWER than '..Said'. Prove '..Said' where nothing that the law and all that it calls make is longer than what came in: it says more and counts as full. Else prove '..UptoSaid'. A law counts once. -/
mutual
def uptoBulk {H : Type} : DataW H → Nat
  | .lit (.string bytes) => bytes.length + 1
  | .lit _ => 1
  | .nil => 1
  | .ptr d => uptoBulk d + 1
  | .slice elems spare => uptoBulkAll elems + uptoBulkAll spare + 1
  | .agg parts => uptoBulkAll parts + 1
  | .iface _ d => uptoBulk d + 1
  | .map entries => uptoBulkEntries entries + 1
  | .held _ => 1
def uptoBulkAll {H : Type} : List (DataW H) → Nat
  | [] => 0
  | d :: r => uptoBulk d + uptoBulkAll r
def uptoBulkEntries {H : Type} : List (Lit × DataW H) → Nat
  | [] => 0
  | x :: r => uptoBulkEntry x + uptoBulkEntries r
def uptoBulkEntry {H : Type} : Lit × DataW H → Nat
  | (.string bytes, d) => bytes.length + uptoBulk d + 1
  | (_, d) => uptoBulk d + 1
 end
def uptoSmall : (H : Type) → List (DataW H) → Bool := fun _ ds => decide (uptoBulkAll ds ≤ 1048576)
def OpenSpec.upto (s : _root_.Go.ChangeSpec) : _root_.Go.OpenSpec := { _root_.Go.OpenSpec.ofChange s with cond := some uptoSmall }

/-- 'flocculuslaw9.FilterKeeps', WHERE WHAT IT READS IS OF BULK AT MOST 1048576: true; the input reads as it did. -/
def filterKeepsUptoRow : OpenClaim := { program := "ytpjjijhojcfmnaa", sum := "9c95ff76aa741c0fff57aa71ef81f374eb6d10cfdbc476adc2593875a60180a6", func := "flocculus/flocculuslaw9.FilterKeeps", spec := "filterKeeps", apart := false, narrowed := true }
def FilterKeepsUptoSaid : Prop := filterKeepsUptoRow.holds Try.pinned (OpenSpec.upto filterKeepsSpec)

/-- 'flocculuslaw9.FilterOrder', WHERE WHAT IT READS IS OF BULK AT MOST 1048576: true; the input reads as it did. -/
def filterOrderUptoRow : OpenClaim := { program := "ytpjjijhojcfmnaa", sum := "9c95ff76aa741c0fff57aa71ef81f374eb6d10cfdbc476adc2593875a60180a6", func := "flocculus/flocculuslaw9.FilterOrder", spec := "filterOrder", apart := false, narrowed := true }
def FilterOrderUptoSaid : Prop := filterOrderUptoRow.holds Try.pinned (OpenSpec.upto filterOrderSpec)

/-- 'flocculuslaw9.FilterPlays', WHERE WHAT IT READS IS OF BULK AT MOST 1048576: true; the input reads as it did. -/
def filterPlaysUptoRow : OpenClaim := { program := "ytpjjijhojcfmnaa", sum := "9c95ff76aa741c0fff57aa71ef81f374eb6d10cfdbc476adc2593875a60180a6", func := "flocculus/flocculuslaw9.FilterPlays", spec := "filterPlays", apart := false, narrowed := true }
def FilterPlaysUptoSaid : Prop := filterPlaysUptoRow.holds Try.pinned (OpenSpec.upto filterPlaysSpec)

/-- 'flocculuslaw9.FilterCounts', WHERE WHAT IT READS IS OF BULK AT MOST 1048576: true; the input reads as it did. -/
def filterCountsUptoRow : OpenClaim := { program := "ytpjjijhojcfmnaa", sum := "9c95ff76aa741c0fff57aa71ef81f374eb6d10cfdbc476adc2593875a60180a6", func := "flocculus/flocculuslaw9.FilterCounts", spec := "filterCounts", apart := false, narrowed := true }
def FilterCountsUptoSaid : Prop := filterCountsUptoRow.holds Try.pinned (OpenSpec.upto filterCountsSpec)

/-- 'flocculuslaw12.CuckooGrows', WHERE WHAT IT READS IS OF BULK AT MOST 1048576: true; the input reads as it did. -/
def cuckooGrowsUptoRow : OpenClaim := { program := "ytpjjijhojcfmnaa", sum := "9c95ff76aa741c0fff57aa71ef81f374eb6d10cfdbc476adc2593875a60180a6", func := "flocculus/flocculuslaw12.CuckooGrows", spec := "cuckooGrows", inPlace := ["slices.overlaps[flocculus/api.Route]"], unfollowed := true, recurses := true, apart := false, narrowed := true }
def CuckooGrowsUptoSaid : Prop := cuckooGrowsUptoRow.holds Try.pinned (OpenSpec.upto cuckooGrowsSpec)

/-- 'flocculuslaw12.CuckooReplaces', WHERE WHAT IT READS IS OF BULK AT MOST 1048576: true; the input reads as it did. -/
def cuckooReplacesUptoRow : OpenClaim := { program := "ytpjjijhojcfmnaa", sum := "9c95ff76aa741c0fff57aa71ef81f374eb6d10cfdbc476adc2593875a60180a6", func := "flocculus/flocculuslaw12.CuckooReplaces", spec := "cuckooReplaces", inPlace := ["slices.overlaps[flocculus/api.Route]"], unfollowed := true, recurses := true, apart := false, narrowed := true }
def CuckooReplacesUptoSaid : Prop := cuckooReplacesUptoRow.holds Try.pinned (OpenSpec.upto cuckooReplacesSpec)

/-- 'flocculuslaw12.CuckooPlays', WHERE WHAT IT READS IS OF BULK AT MOST 1048576: true; the input reads as it did. -/
def cuckooPlaysUptoRow : OpenClaim := { program := "ytpjjijhojcfmnaa", sum := "9c95ff76aa741c0fff57aa71ef81f374eb6d10cfdbc476adc2593875a60180a6", func := "flocculus/flocculuslaw12.CuckooPlays", spec := "cuckooPlays", inPlace := ["slices.overlaps[flocculus/api.Route]"], unfollowed := true, recurses := true, apart := false, narrowed := true }
def CuckooPlaysUptoSaid : Prop := cuckooPlaysUptoRow.holds Try.pinned (OpenSpec.upto cuckooPlaysSpec)

/-- 'flocculuslaw12.CuckooKeeps', WHERE WHAT IT READS IS OF BULK AT MOST 1048576: true; the input reads as it did. -/
def cuckooKeepsUptoRow : OpenClaim := { program := "ytpjjijhojcfmnaa", sum := "9c95ff76aa741c0fff57aa71ef81f374eb6d10cfdbc476adc2593875a60180a6", func := "flocculus/flocculuslaw12.CuckooKeeps", spec := "cuckooKeeps", inPlace := ["slices.overlaps[flocculus/api.Route]"], unfollowed := true, recurses := true, apart := false, narrowed := true }
def CuckooKeepsUptoSaid : Prop := cuckooKeepsUptoRow.holds Try.pinned (OpenSpec.upto cuckooKeepsSpec)

/-- 'flocculuslaw21.LevelSure', WHERE WHAT IT READS IS OF BULK AT MOST 1048576: true; the input reads as it did. -/
def levelSureUptoRow : OpenClaim := { program := "ytpjjijhojcfmnaa", sum := "9c95ff76aa741c0fff57aa71ef81f374eb6d10cfdbc476adc2593875a60180a6", func := "flocculus/flocculuslaw21.LevelSure", spec := "levelSure", inPlace := ["slices.overlaps[flocculus/api.Route]"], unfollowed := true, recurses := true, apart := false, narrowed := true }
def LevelSureUptoSaid : Prop := levelSureUptoRow.holds Try.pinned (OpenSpec.upto levelSureSpec)

/-- 'flocculuslaw18.CoverTells', WHERE WHAT IT READS IS OF BULK AT MOST 1048576: true; the input reads as it did. -/
def coverTellsUptoRow : OpenClaim := { program := "ytpjjijhojcfmnaa", sum := "9c95ff76aa741c0fff57aa71ef81f374eb6d10cfdbc476adc2593875a60180a6", func := "flocculus/flocculuslaw18.CoverTells", spec := "coverTells", unfollowed := true, recurses := true, apart := false, narrowed := true }
def CoverTellsUptoSaid : Prop := coverTellsUptoRow.holds Try.pinned (OpenSpec.upto coverTellsSpec)

/-- 'flocculuslaw19.DeltaTells', WHERE WHAT IT READS IS OF BULK AT MOST 1048576: true; the input reads as it did. -/
def deltaTellsUptoRow : OpenClaim := { program := "ytpjjijhojcfmnaa", sum := "9c95ff76aa741c0fff57aa71ef81f374eb6d10cfdbc476adc2593875a60180a6", func := "flocculus/flocculuslaw19.DeltaTells", spec := "deltaTells", unfollowed := true, recurses := true, apart := false, narrowed := true }
def DeltaTellsUptoSaid : Prop := deltaTellsUptoRow.holds Try.pinned (OpenSpec.upto deltaTellsSpec)

end Rows
end Go.Proofs.Ytpjjijhojcfmnaa
