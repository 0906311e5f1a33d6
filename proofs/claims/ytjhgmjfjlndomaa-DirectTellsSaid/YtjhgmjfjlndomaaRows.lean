/-
  No cell of these rows narrows 'for every input' (looked for: loops, veiled, ifaces, maps, wideKeys, modest, calm, conditions, laid).
  DERIVED. THE GIVEN ROWS OF THIS SEAT. 12 by the template 'for every input the law returns true; each argument reads behind the call as it read before'; 0 by the template 'total and deterministic' (their statements: YtjhgmjfjlndomaaTotals.lean).
  GIVEN WITH THE SEED: the statements are not yours to turn. If you find one false, say at which input.
  Laid BY PROGRAM, IN A SANDBOX (cutbox-rows.mjs): the forced cells as the released guide's own fill.sh prints them over the translation 407bf3b8c3aca8c2… (all of the seat's roots in one cut). By AI agents, Wed Nov 11 2026. No macro, syntax, notation, axiom, sorry.
-/
import Derived.Test.YtjhgmjfjlndomaaChecked
import GoSem.Claim
import GoSem.ClaimJoined
import GoSem.ClaimMapViews
import Derived.JoinedTies
import Derived.KernelRfl
namespace Go.Proofs.Ytjhgmjfjlndomaa
/- THE CELL 'sum', in the pinned program and in every row, IS THE sha256 OF THE DUMP (.gsa) THAT YtjhgmjfjlndomaaProg.lean LOADS. Nothing in Lean hashes anything: it is a label: what it is worth is what the hold of that sum in a sandbox is worth. -/
noncomputable def Try.pinned : Pinned := { name := "ytjhgmjfjlndomaa", sum := "407bf3b8c3aca8c25289070d6e855eaa72027c4ef013cd71ec33c6dfe956ac25", checked := Try.checked }
namespace Rows
def none {H : Type} : Left H := { results := [], args := [] }

/-- 'flocculuslaw4.SpreadTells': WHATEVER THE INPUT: true; the input reads as it did. -/
def spreadTellsSpec : ChangeSpec := { name := "spreadTells", fn := fun _ => fun
  | [d1, d2] => { results := [.lit (.bool true)], args := [d1, d2] }
  | _ => none }
def spreadTellsRow : OpenClaim := { program := "ytjhgmjfjlndomaa", sum := "407bf3b8c3aca8c25289070d6e855eaa72027c4ef013cd71ec33c6dfe956ac25", func := "flocculus/flocculuslaw4.SpreadTells", spec := "spreadTells", apart := false }
def SpreadTellsSaid : Prop := spreadTellsRow.holds Try.pinned (OpenSpec.ofChange spreadTellsSpec)

/-- ITS FALSE NEIGHBOUR: 'it returns false'. Refute it at one input. -/
def spreadTellsWrong : ChangeSpec := { name := "spreadTells", fn := fun _ => fun
  | [d1, d2] => { results := [.lit (.bool false)], args := [d1, d2] }
  | _ => none }
def SpreadTellsWrongFalsely : Prop := spreadTellsRow.holds Try.pinned (OpenSpec.ofChange spreadTellsWrong)

/-- 'flocculuslaw4.SpreadAll': WHATEVER THE INPUT: true; the input reads as it did. -/
def spreadAllSpec : ChangeSpec := { name := "spreadAll", fn := fun _ => fun
  | [d1, d2, d3, d4] => { results := [.lit (.bool true)], args := [d1, d2, d3, d4] }
  | _ => none }
def spreadAllRow : OpenClaim := { program := "ytjhgmjfjlndomaa", sum := "407bf3b8c3aca8c25289070d6e855eaa72027c4ef013cd71ec33c6dfe956ac25", func := "flocculus/flocculuslaw4.SpreadAll", spec := "spreadAll", apart := false }
def SpreadAllSaid : Prop := spreadAllRow.holds Try.pinned (OpenSpec.ofChange spreadAllSpec)

/-- ITS FALSE NEIGHBOUR: 'it returns false'. Refute it at one input. -/
def spreadAllWrong : ChangeSpec := { name := "spreadAll", fn := fun _ => fun
  | [d1, d2, d3, d4] => { results := [.lit (.bool false)], args := [d1, d2, d3, d4] }
  | _ => none }
def SpreadAllWrongFalsely : Prop := spreadAllRow.holds Try.pinned (OpenSpec.ofChange spreadAllWrong)

/-- 'flocculuslaw4.SpreadHalves': WHATEVER THE INPUT: true; the input reads as it did. -/
def spreadHalvesSpec : ChangeSpec := { name := "spreadHalves", fn := fun _ => fun
  | [d1, d2, d3] => { results := [.lit (.bool true)], args := [d1, d2, d3] }
  | _ => none }
def spreadHalvesRow : OpenClaim := { program := "ytjhgmjfjlndomaa", sum := "407bf3b8c3aca8c25289070d6e855eaa72027c4ef013cd71ec33c6dfe956ac25", func := "flocculus/flocculuslaw4.SpreadHalves", spec := "spreadHalves", apart := false }
def SpreadHalvesSaid : Prop := spreadHalvesRow.holds Try.pinned (OpenSpec.ofChange spreadHalvesSpec)

/-- ITS FALSE NEIGHBOUR: 'it returns false'. Refute it at one input. -/
def spreadHalvesWrong : ChangeSpec := { name := "spreadHalves", fn := fun _ => fun
  | [d1, d2, d3] => { results := [.lit (.bool false)], args := [d1, d2, d3] }
  | _ => none }
def SpreadHalvesWrongFalsely : Prop := spreadHalvesRow.holds Try.pinned (OpenSpec.ofChange spreadHalvesWrong)

/-- 'flocculuslaw14.TrieCovers': WHATEVER THE INPUT: true; the input reads as it did. -/
def trieCoversSpec : ChangeSpec := { name := "trieCovers", fn := fun _ => fun
  | [d1, d2, d3, d4, d5] => { results := [.lit (.bool true)], args := [d1, d2, d3, d4, d5] }
  | _ => none }
def trieCoversRow : OpenClaim := { program := "ytjhgmjfjlndomaa", sum := "407bf3b8c3aca8c25289070d6e855eaa72027c4ef013cd71ec33c6dfe956ac25", func := "flocculus/flocculuslaw14.TrieCovers", spec := "trieCovers", apart := false }
def TrieCoversSaid : Prop := trieCoversRow.holds Try.pinned (OpenSpec.ofChange trieCoversSpec)

/-- ITS FALSE NEIGHBOUR: 'it returns false'. Refute it at one input. -/
def trieCoversWrong : ChangeSpec := { name := "trieCovers", fn := fun _ => fun
  | [d1, d2, d3, d4, d5] => { results := [.lit (.bool false)], args := [d1, d2, d3, d4, d5] }
  | _ => none }
def TrieCoversWrongFalsely : Prop := trieCoversRow.holds Try.pinned (OpenSpec.ofChange trieCoversWrong)

/-- 'flocculuslaw14.TrieNested': WHATEVER THE INPUT: true; the input reads as it did. -/
def trieNestedSpec : ChangeSpec := { name := "trieNested", fn := fun _ => fun
  | [d1, d2, d3, d4] => { results := [.lit (.bool true)], args := [d1, d2, d3, d4] }
  | _ => none }
def trieNestedRow : OpenClaim := { program := "ytjhgmjfjlndomaa", sum := "407bf3b8c3aca8c25289070d6e855eaa72027c4ef013cd71ec33c6dfe956ac25", func := "flocculus/flocculuslaw14.TrieNested", spec := "trieNested", apart := false }
def TrieNestedSaid : Prop := trieNestedRow.holds Try.pinned (OpenSpec.ofChange trieNestedSpec)

/-- ITS FALSE NEIGHBOUR: 'it returns false'. Refute it at one input. -/
def trieNestedWrong : ChangeSpec := { name := "trieNested", fn := fun _ => fun
  | [d1, d2, d3, d4] => { results := [.lit (.bool false)], args := [d1, d2, d3, d4] }
  | _ => none }
def TrieNestedWrongFalsely : Prop := trieNestedRow.holds Try.pinned (OpenSpec.ofChange trieNestedWrong)

/-- 'flocculuslaw14.TriePlays': WHATEVER THE INPUT: true; the input reads as it did. -/
def triePlaysSpec : ChangeSpec := { name := "triePlays", fn := fun _ => fun
  | [d1, d2, d3, d4, d5] => { results := [.lit (.bool true)], args := [d1, d2, d3, d4, d5] }
  | _ => none }
def triePlaysRow : OpenClaim := { program := "ytjhgmjfjlndomaa", sum := "407bf3b8c3aca8c25289070d6e855eaa72027c4ef013cd71ec33c6dfe956ac25", func := "flocculus/flocculuslaw14.TriePlays", spec := "triePlays", apart := false }
def TriePlaysSaid : Prop := triePlaysRow.holds Try.pinned (OpenSpec.ofChange triePlaysSpec)

/-- ITS FALSE NEIGHBOUR: 'it returns false'. Refute it at one input. -/
def triePlaysWrong : ChangeSpec := { name := "triePlays", fn := fun _ => fun
  | [d1, d2, d3, d4, d5] => { results := [.lit (.bool false)], args := [d1, d2, d3, d4, d5] }
  | _ => none }
def TriePlaysWrongFalsely : Prop := triePlaysRow.holds Try.pinned (OpenSpec.ofChange triePlaysWrong)

/-- 'flocculuslaw15.WalkTells': WHATEVER THE INPUT: true; the input reads as it did. -/
def walkTellsSpec : ChangeSpec := { name := "walkTells", fn := fun _ => fun
  | [d1, d2] => { results := [.lit (.bool true)], args := [d1, d2] }
  | _ => none }
def walkTellsRow : OpenClaim := { program := "ytjhgmjfjlndomaa", sum := "407bf3b8c3aca8c25289070d6e855eaa72027c4ef013cd71ec33c6dfe956ac25", func := "flocculus/flocculuslaw15.WalkTells", spec := "walkTells", unfollowed := true, recurses := true, apart := false }
def WalkTellsSaid : Prop := walkTellsRow.holds Try.pinned (OpenSpec.ofChange walkTellsSpec)

/-- ITS FALSE NEIGHBOUR: 'it returns false'. Refute it at one input. -/
def walkTellsWrong : ChangeSpec := { name := "walkTells", fn := fun _ => fun
  | [d1, d2] => { results := [.lit (.bool false)], args := [d1, d2] }
  | _ => none }
def WalkTellsWrongFalsely : Prop := walkTellsRow.holds Try.pinned (OpenSpec.ofChange walkTellsWrong)

/-- 'flocculuslaw19.DeltaTurns': WHATEVER THE INPUT: true; the input reads as it did. -/
def deltaTurnsSpec : ChangeSpec := { name := "deltaTurns", fn := fun _ => fun
  | [d1, d2] => { results := [.lit (.bool true)], args := [d1, d2] }
  | _ => none }
def deltaTurnsRow : OpenClaim := { program := "ytjhgmjfjlndomaa", sum := "407bf3b8c3aca8c25289070d6e855eaa72027c4ef013cd71ec33c6dfe956ac25", func := "flocculus/flocculuslaw19.DeltaTurns", spec := "deltaTurns", unfollowed := true, recurses := true, apart := false }
def DeltaTurnsSaid : Prop := deltaTurnsRow.holds Try.pinned (OpenSpec.ofChange deltaTurnsSpec)

/-- ITS FALSE NEIGHBOUR: 'it returns false'. Refute it at one input. -/
def deltaTurnsWrong : ChangeSpec := { name := "deltaTurns", fn := fun _ => fun
  | [d1, d2] => { results := [.lit (.bool false)], args := [d1, d2] }
  | _ => none }
def DeltaTurnsWrongFalsely : Prop := deltaTurnsRow.holds Try.pinned (OpenSpec.ofChange deltaTurnsWrong)

/-- 'flocculuslaw19.DeltaBack': WHATEVER THE INPUT: true; the input reads as it did. -/
def deltaBackSpec : ChangeSpec := { name := "deltaBack", fn := fun _ => fun
  | [d1, d2] => { results := [.lit (.bool true)], args := [d1, d2] }
  | _ => none }
def deltaBackRow : OpenClaim := { program := "ytjhgmjfjlndomaa", sum := "407bf3b8c3aca8c25289070d6e855eaa72027c4ef013cd71ec33c6dfe956ac25", func := "flocculus/flocculuslaw19.DeltaBack", spec := "deltaBack", unfollowed := true, recurses := true, apart := false }
def DeltaBackSaid : Prop := deltaBackRow.holds Try.pinned (OpenSpec.ofChange deltaBackSpec)

/-- ITS FALSE NEIGHBOUR: 'it returns false'. Refute it at one input. -/
def deltaBackWrong : ChangeSpec := { name := "deltaBack", fn := fun _ => fun
  | [d1, d2] => { results := [.lit (.bool false)], args := [d1, d2] }
  | _ => none }
def DeltaBackWrongFalsely : Prop := deltaBackRow.holds Try.pinned (OpenSpec.ofChange deltaBackWrong)

/-- 'flocculuslaw20.DirectTells': WHATEVER THE INPUT: true; the input reads as it did. -/
def directTellsSpec : ChangeSpec := { name := "directTells", fn := fun _ => fun
  | [d1, d2, d3] => { results := [.lit (.bool true)], args := [d1, d2, d3] }
  | _ => none }
def directTellsRow : OpenClaim := { program := "ytjhgmjfjlndomaa", sum := "407bf3b8c3aca8c25289070d6e855eaa72027c4ef013cd71ec33c6dfe956ac25", func := "flocculus/flocculuslaw20.DirectTells", spec := "directTells", apart := false }
def DirectTellsSaid : Prop := directTellsRow.holds Try.pinned (OpenSpec.ofChange directTellsSpec)

/-- ITS FALSE NEIGHBOUR: 'it returns false'. Refute it at one input. -/
def directTellsWrong : ChangeSpec := { name := "directTells", fn := fun _ => fun
  | [d1, d2, d3] => { results := [.lit (.bool false)], args := [d1, d2, d3] }
  | _ => none }
def DirectTellsWrongFalsely : Prop := directTellsRow.holds Try.pinned (OpenSpec.ofChange directTellsWrong)

/-- 'flocculuslaw20.DirectNested': WHATEVER THE INPUT: true; the input reads as it did. -/
def directNestedSpec : ChangeSpec := { name := "directNested", fn := fun _ => fun
  | [d1, d2, d3] => { results := [.lit (.bool true)], args := [d1, d2, d3] }
  | _ => none }
def directNestedRow : OpenClaim := { program := "ytjhgmjfjlndomaa", sum := "407bf3b8c3aca8c25289070d6e855eaa72027c4ef013cd71ec33c6dfe956ac25", func := "flocculus/flocculuslaw20.DirectNested", spec := "directNested", apart := false }
def DirectNestedSaid : Prop := directNestedRow.holds Try.pinned (OpenSpec.ofChange directNestedSpec)

/-- ITS FALSE NEIGHBOUR: 'it returns false'. Refute it at one input. -/
def directNestedWrong : ChangeSpec := { name := "directNested", fn := fun _ => fun
  | [d1, d2, d3] => { results := [.lit (.bool false)], args := [d1, d2, d3] }
  | _ => none }
def DirectNestedWrongFalsely : Prop := directNestedRow.holds Try.pinned (OpenSpec.ofChange directNestedWrong)

/-- 'flocculuslaw18.CoverAll': WHATEVER THE INPUT: true; the input reads as it did. -/
def coverAllSpec : ChangeSpec := { name := "coverAll", fn := fun _ => fun
  | [d1, d2, d3, d4] => { results := [.lit (.bool true)], args := [d1, d2, d3, d4] }
  | _ => none }
def coverAllRow : OpenClaim := { program := "ytjhgmjfjlndomaa", sum := "407bf3b8c3aca8c25289070d6e855eaa72027c4ef013cd71ec33c6dfe956ac25", func := "flocculus/flocculuslaw18.CoverAll", spec := "coverAll", unfollowed := true, recurses := true, apart := false }
def CoverAllSaid : Prop := coverAllRow.holds Try.pinned (OpenSpec.ofChange coverAllSpec)

/-- ITS FALSE NEIGHBOUR: 'it returns false'. Refute it at one input. -/
def coverAllWrong : ChangeSpec := { name := "coverAll", fn := fun _ => fun
  | [d1, d2, d3, d4] => { results := [.lit (.bool false)], args := [d1, d2, d3, d4] }
  | _ => none }
def CoverAllWrongFalsely : Prop := coverAllRow.holds Try.pinned (OpenSpec.ofChange coverAllWrong)

/- THE SECOND FORM. 'bulk': how many values and letters a reading holds, each counted each time it is reached (what is shared counts as often as it is met; a slice's spare places count too). A statement '..UptoSaid' is the law's where the arguments, and the package variables that the reading takes, are together of bulk at most 1048576: NARROWER than '..Said'. Prove '..Said' where nothing that the law and all that it calls make is longer than what came in: it says more and counts as full. Else prove '..UptoSaid'. A law counts once. -/
mutual
def uptoBulk {H : Type} : DataW H → Nat
  | .lit (.string bytes) => bytes.length + 1
  | .lit _ => 1
  | .nil => 1
  | .ptr d => uptoBulk d + 1
  | .slice elems spare => uptoBulkAll elems + uptoBulkAll spare + 1
  | .agg parts => uptoBulkAll parts + 1
  | .iface _ d => uptoBulk d + 1
  | .map entries => uptoBulkEntries entries + 1
  | .held _ => 1
def uptoBulkAll {H : Type} : List (DataW H) → Nat
  | [] => 0
  | d :: r => uptoBulk d + uptoBulkAll r
def uptoBulkEntries {H : Type} : List (Lit × DataW H) → Nat
  | [] => 0
  | x :: r => uptoBulkEntry x + uptoBulkEntries r
def uptoBulkEntry {H : Type} : Lit × DataW H → Nat
  | (.string bytes, d) => bytes.length + uptoBulk d + 1
  | (_, d) => uptoBulk d + 1
 end
def uptoSmall : (H : Type) → List (DataW H) → Bool := fun _ ds => decide (uptoBulkAll ds ≤ 1048576)
def OpenSpec.upto (s : _root_.Go.ChangeSpec) : _root_.Go.OpenSpec := { _root_.Go.OpenSpec.ofChange s with cond := some uptoSmall }

/-- 'flocculuslaw4.SpreadTells', WHERE WHAT IT READS IS OF BULK AT MOST 1048576: true; the input reads as it did. -/
def spreadTellsUptoRow : OpenClaim := { program := "ytjhgmjfjlndomaa", sum := "407bf3b8c3aca8c25289070d6e855eaa72027c4ef013cd71ec33c6dfe956ac25", func := "flocculus/flocculuslaw4.SpreadTells", spec := "spreadTells", apart := false, narrowed := true }
def SpreadTellsUptoSaid : Prop := spreadTellsUptoRow.holds Try.pinned (OpenSpec.upto spreadTellsSpec)

/-- 'flocculuslaw4.SpreadAll', WHERE WHAT IT READS IS OF BULK AT MOST 1048576: true; the input reads as it did. -/
def spreadAllUptoRow : OpenClaim := { program := "ytjhgmjfjlndomaa", sum := "407bf3b8c3aca8c25289070d6e855eaa72027c4ef013cd71ec33c6dfe956ac25", func := "flocculus/flocculuslaw4.SpreadAll", spec := "spreadAll", apart := false, narrowed := true }
def SpreadAllUptoSaid : Prop := spreadAllUptoRow.holds Try.pinned (OpenSpec.upto spreadAllSpec)

/-- 'flocculuslaw4.SpreadHalves', WHERE WHAT IT READS IS OF BULK AT MOST 1048576: true; the input reads as it did. -/
def spreadHalvesUptoRow : OpenClaim := { program := "ytjhgmjfjlndomaa", sum := "407bf3b8c3aca8c25289070d6e855eaa72027c4ef013cd71ec33c6dfe956ac25", func := "flocculus/flocculuslaw4.SpreadHalves", spec := "spreadHalves", apart := false, narrowed := true }
def SpreadHalvesUptoSaid : Prop := spreadHalvesUptoRow.holds Try.pinned (OpenSpec.upto spreadHalvesSpec)

/-- 'flocculuslaw14.TrieCovers', WHERE WHAT IT READS IS OF BULK AT MOST 1048576: true; the input reads as it did. -/
def trieCoversUptoRow : OpenClaim := { program := "ytjhgmjfjlndomaa", sum := "407bf3b8c3aca8c25289070d6e855eaa72027c4ef013cd71ec33c6dfe956ac25", func := "flocculus/flocculuslaw14.TrieCovers", spec := "trieCovers", apart := false, narrowed := true }
def TrieCoversUptoSaid : Prop := trieCoversUptoRow.holds Try.pinned (OpenSpec.upto trieCoversSpec)

/-- 'flocculuslaw14.TrieNested', WHERE WHAT IT READS IS OF BULK AT MOST 1048576: true; the input reads as it did. -/
def trieNestedUptoRow : OpenClaim := { program := "ytjhgmjfjlndomaa", sum := "407bf3b8c3aca8c25289070d6e855eaa72027c4ef013cd71ec33c6dfe956ac25", func := "flocculus/flocculuslaw14.TrieNested", spec := "trieNested", apart := false, narrowed := true }
def TrieNestedUptoSaid : Prop := trieNestedUptoRow.holds Try.pinned (OpenSpec.upto trieNestedSpec)

/-- 'flocculuslaw14.TriePlays', WHERE WHAT IT READS IS OF BULK AT MOST 1048576: true; the input reads as it did. -/
def triePlaysUptoRow : OpenClaim := { program := "ytjhgmjfjlndomaa", sum := "407bf3b8c3aca8c25289070d6e855eaa72027c4ef013cd71ec33c6dfe956ac25", func := "flocculus/flocculuslaw14.TriePlays", spec := "triePlays", apart := false, narrowed := true }
def TriePlaysUptoSaid : Prop := triePlaysUptoRow.holds Try.pinned (OpenSpec.upto triePlaysSpec)

/-- 'flocculuslaw15.WalkTells', WHERE WHAT IT READS IS OF BULK AT MOST 1048576: true; the input reads as it did. -/
def walkTellsUptoRow : OpenClaim := { program := "ytjhgmjfjlndomaa", sum := "407bf3b8c3aca8c25289070d6e855eaa72027c4ef013cd71ec33c6dfe956ac25", func := "flocculus/flocculuslaw15.WalkTells", spec := "walkTells", unfollowed := true, recurses := true, apart := false, narrowed := true }
def WalkTellsUptoSaid : Prop := walkTellsUptoRow.holds Try.pinned (OpenSpec.upto walkTellsSpec)

/-- 'flocculuslaw19.DeltaTurns', WHERE WHAT IT READS IS OF BULK AT MOST 1048576: true; the input reads as it did. -/
def deltaTurnsUptoRow : OpenClaim := { program := "ytjhgmjfjlndomaa", sum := "407bf3b8c3aca8c25289070d6e855eaa72027c4ef013cd71ec33c6dfe956ac25", func := "flocculus/flocculuslaw19.DeltaTurns", spec := "deltaTurns", unfollowed := true, recurses := true, apart := false, narrowed := true }
def DeltaTurnsUptoSaid : Prop := deltaTurnsUptoRow.holds Try.pinned (OpenSpec.upto deltaTurnsSpec)

/-- 'flocculuslaw19.DeltaBack', WHERE WHAT IT READS IS OF BULK AT MOST 1048576: true; the input reads as it did. -/
def deltaBackUptoRow : OpenClaim := { program := "ytjhgmjfjlndomaa", sum := "407bf3b8c3aca8c25289070d6e855eaa72027c4ef013cd71ec33c6dfe956ac25", func := "flocculus/flocculuslaw19.DeltaBack", spec := "deltaBack", unfollowed := true, recurses := true, apart := false, narrowed := true }
def DeltaBackUptoSaid : Prop := deltaBackUptoRow.holds Try.pinned (OpenSpec.upto deltaBackSpec)

/-- 'flocculuslaw20.DirectTells', WHERE WHAT IT READS IS OF BULK AT MOST 1048576: true; the input reads as it did. -/
def directTellsUptoRow : OpenClaim := { program := "ytjhgmjfjlndomaa", sum := "407bf3b8c3aca8c25289070d6e855eaa72027c4ef013cd71ec33c6dfe956ac25", func := "flocculus/flocculuslaw20.DirectTells", spec := "directTells", apart := false, narrowed := true }
def DirectTellsUptoSaid : Prop := directTellsUptoRow.holds Try.pinned (OpenSpec.upto directTellsSpec)

/-- 'flocculuslaw20.DirectNested', WHERE WHAT IT READS IS OF BULK AT MOST 1048576: true; the input reads as it did. -/
def directNestedUptoRow : OpenClaim := { program := "ytjhgmjfjlndomaa", sum := "407bf3b8c3aca8c25289070d6e855eaa72027c4ef013cd71ec33c6dfe956ac25", func := "flocculus/flocculuslaw20.DirectNested", spec := "directNested", apart := false, narrowed := true }
def DirectNestedUptoSaid : Prop := directNestedUptoRow.holds Try.pinned (OpenSpec.upto directNestedSpec)

/-- 'flocculuslaw18.CoverAll', WHERE WHAT IT READS IS OF BULK AT MOST 1048576: true; the input reads as it did. -/
def coverAllUptoRow : OpenClaim := { program := "ytjhgmjfjlndomaa", sum := "407bf3b8c3aca8c25289070d6e855eaa72027c4ef013cd71ec33c6dfe956ac25", func := "flocculus/flocculuslaw18.CoverAll", spec := "coverAll", unfollowed := true, recurses := true, apart := false, narrowed := true }
def CoverAllUptoSaid : Prop := coverAllUptoRow.holds Try.pinned (OpenSpec.upto coverAllSpec)

end Rows
end Go.Proofs.Ytjhgmjfjlndomaa
