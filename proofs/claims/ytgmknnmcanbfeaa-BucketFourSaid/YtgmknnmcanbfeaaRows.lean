/-
  No cell of these rows narrows 'for every input' (looked for: loops, veiled, ifaces, maps, wideKeys, modest, calm, conditions, laid).
  DERIVED. THE GIVEN ROWS OF THIS SEAT. 12 by the template 'for every input the law returns true; each argument reads behind the call as it read before'; 0 by the template 'total and deterministic' (their statements: YtgmknnmcanbfeaaTotals.lean).
  GIVEN WITH THE SEED: the statements are not yours to turn. If you find one false, say at which input.
  Laid BY PROGRAM, IN A SANDBOX (cutbox-rows.mjs): the forced cells as the released guide's own fill.sh prints them over the translation fcdbbc956447d03e… (all of the seat's roots in one cut). By AI agents, Wed Nov 11 2026. No macro, syntax, notation, axiom, sorry.
-/
import Derived.Test.YtgmknnmcanbfeaaChecked
import GoSem.Claim
import GoSem.ClaimJoined
import GoSem.ClaimMapViews
import Derived.JoinedTies
import Derived.KernelRfl
namespace Go.Proofs.Ytgmknnmcanbfeaa
/- THE CELL 'sum', in the pinned program and in every row, IS THE sha256 OF THE DUMP (.gsa) THAT YtgmknnmcanbfeaaProg.lean LOADS. Nothing in Lean hashes anything: it is a label: what it is worth is what the hold of that sum in a sandbox is worth. -/
noncomputable def Try.pinned : Pinned := { name := "ytgmknnmcanbfeaa", sum := "fcdbbc956447d03e91de9e4c669a8d9fc439084015684ddea7fdccb5798b6afb", checked := Try.checked }
namespace Rows
def none {H : Type} : Left H := { results := [], args := [] }

/-- 'flocculuslaw1.AddrCommon': WHATEVER THE INPUT: true; the input reads as it did. -/
def addrCommonSpec : ChangeSpec := { name := "addrCommon", fn := fun _ => fun
  | [d1, d2] => { results := [.lit (.bool true)], args := [d1, d2] }
  | _ => none }
def addrCommonRow : OpenClaim := { program := "ytgmknnmcanbfeaa", sum := "fcdbbc956447d03e91de9e4c669a8d9fc439084015684ddea7fdccb5798b6afb", func := "flocculus/flocculuslaw1.AddrCommon", spec := "addrCommon", apart := false }
def AddrCommonSaid : Prop := addrCommonRow.holds Try.pinned (OpenSpec.ofChange addrCommonSpec)

/-- ITS FALSE NEIGHBOUR: 'it returns false'. Refute it at one input. -/
def addrCommonWrong : ChangeSpec := { name := "addrCommon", fn := fun _ => fun
  | [d1, d2] => { results := [.lit (.bool false)], args := [d1, d2] }
  | _ => none }
def AddrCommonWrongFalsely : Prop := addrCommonRow.holds Try.pinned (OpenSpec.ofChange addrCommonWrong)

/-- 'flocculuslaw1.AddrCuts': WHATEVER THE INPUT: true; the input reads as it did. -/
def addrCutsSpec : ChangeSpec := { name := "addrCuts", fn := fun _ => fun
  | [d1, d2, d3, d4] => { results := [.lit (.bool true)], args := [d1, d2, d3, d4] }
  | _ => none }
def addrCutsRow : OpenClaim := { program := "ytgmknnmcanbfeaa", sum := "fcdbbc956447d03e91de9e4c669a8d9fc439084015684ddea7fdccb5798b6afb", func := "flocculus/flocculuslaw1.AddrCuts", spec := "addrCuts", apart := false }
def AddrCutsSaid : Prop := addrCutsRow.holds Try.pinned (OpenSpec.ofChange addrCutsSpec)

/-- ITS FALSE NEIGHBOUR: 'it returns false'. Refute it at one input. -/
def addrCutsWrong : ChangeSpec := { name := "addrCuts", fn := fun _ => fun
  | [d1, d2, d3, d4] => { results := [.lit (.bool false)], args := [d1, d2, d3, d4] }
  | _ => none }
def AddrCutsWrongFalsely : Prop := addrCutsRow.holds Try.pinned (OpenSpec.ofChange addrCutsWrong)

/-- 'flocculuslaw1.AddrTells': WHATEVER THE INPUT: true; the input reads as it did. -/
def addrTellsSpec : ChangeSpec := { name := "addrTells", fn := fun _ => fun
  | [d1, d2, d3, d4, d5] => { results := [.lit (.bool true)], args := [d1, d2, d3, d4, d5] }
  | _ => none }
def addrTellsRow : OpenClaim := { program := "ytgmknnmcanbfeaa", sum := "fcdbbc956447d03e91de9e4c669a8d9fc439084015684ddea7fdccb5798b6afb", func := "flocculus/flocculuslaw1.AddrTells", spec := "addrTells", apart := false }
def AddrTellsSaid : Prop := addrTellsRow.holds Try.pinned (OpenSpec.ofChange addrTellsSpec)

/-- ITS FALSE NEIGHBOUR: 'it returns false'. Refute it at one input. -/
def addrTellsWrong : ChangeSpec := { name := "addrTells", fn := fun _ => fun
  | [d1, d2, d3, d4, d5] => { results := [.lit (.bool false)], args := [d1, d2, d3, d4, d5] }
  | _ => none }
def AddrTellsWrongFalsely : Prop := addrTellsRow.holds Try.pinned (OpenSpec.ofChange addrTellsWrong)

/-- 'flocculuslaw1.AddrOrder': WHATEVER THE INPUT: true; the input reads as it did. -/
def addrOrderSpec : ChangeSpec := { name := "addrOrder", fn := fun _ => fun
  | [d1, d2, d3] => { results := [.lit (.bool true)], args := [d1, d2, d3] }
  | _ => none }
def addrOrderRow : OpenClaim := { program := "ytgmknnmcanbfeaa", sum := "fcdbbc956447d03e91de9e4c669a8d9fc439084015684ddea7fdccb5798b6afb", func := "flocculus/flocculuslaw1.AddrOrder", spec := "addrOrder", apart := false }
def AddrOrderSaid : Prop := addrOrderRow.holds Try.pinned (OpenSpec.ofChange addrOrderSpec)

/-- ITS FALSE NEIGHBOUR: 'it returns false'. Refute it at one input. -/
def addrOrderWrong : ChangeSpec := { name := "addrOrder", fn := fun _ => fun
  | [d1, d2, d3] => { results := [.lit (.bool false)], args := [d1, d2, d3] }
  | _ => none }
def AddrOrderWrongFalsely : Prop := addrOrderRow.holds Try.pinned (OpenSpec.ofChange addrOrderWrong)

/-- 'flocculuslaw7.NibblePlays': WHATEVER THE INPUT: true; the input reads as it did. -/
def nibblePlaysSpec : ChangeSpec := { name := "nibblePlays", fn := fun _ => fun
  | [d1, d2] => { results := [.lit (.bool true)], args := [d1, d2] }
  | _ => none }
def nibblePlaysRow : OpenClaim := { program := "ytgmknnmcanbfeaa", sum := "fcdbbc956447d03e91de9e4c669a8d9fc439084015684ddea7fdccb5798b6afb", func := "flocculus/flocculuslaw7.NibblePlays", spec := "nibblePlays", apart := false }
def NibblePlaysSaid : Prop := nibblePlaysRow.holds Try.pinned (OpenSpec.ofChange nibblePlaysSpec)

/-- ITS FALSE NEIGHBOUR: 'it returns false'. Refute it at one input. -/
def nibblePlaysWrong : ChangeSpec := { name := "nibblePlays", fn := fun _ => fun
  | [d1, d2] => { results := [.lit (.bool false)], args := [d1, d2] }
  | _ => none }
def NibblePlaysWrongFalsely : Prop := nibblePlaysRow.holds Try.pinned (OpenSpec.ofChange nibblePlaysWrong)

/-- 'flocculuslaw7.NibbleSticks': WHATEVER THE INPUT: true; the input reads as it did. -/
def nibbleSticksSpec : ChangeSpec := { name := "nibbleSticks", fn := fun _ => fun
  | [d1, d2, d3] => { results := [.lit (.bool true)], args := [d1, d2, d3] }
  | _ => none }
def nibbleSticksRow : OpenClaim := { program := "ytgmknnmcanbfeaa", sum := "fcdbbc956447d03e91de9e4c669a8d9fc439084015684ddea7fdccb5798b6afb", func := "flocculus/flocculuslaw7.NibbleSticks", spec := "nibbleSticks", apart := false }
def NibbleSticksSaid : Prop := nibbleSticksRow.holds Try.pinned (OpenSpec.ofChange nibbleSticksSpec)

/-- ITS FALSE NEIGHBOUR: 'it returns false'. Refute it at one input. -/
def nibbleSticksWrong : ChangeSpec := { name := "nibbleSticks", fn := fun _ => fun
  | [d1, d2, d3] => { results := [.lit (.bool false)], args := [d1, d2, d3] }
  | _ => none }
def NibbleSticksWrongFalsely : Prop := nibbleSticksRow.holds Try.pinned (OpenSpec.ofChange nibbleSticksWrong)

/-- 'flocculuslaw6.PickBelow': WHATEVER THE INPUT: true; the input reads as it did. -/
def pickBelowSpec : ChangeSpec := { name := "pickBelow", fn := fun _ => fun
  | [d1, d2, d3] => { results := [.lit (.bool true)], args := [d1, d2, d3] }
  | _ => none }
def pickBelowRow : OpenClaim := { program := "ytgmknnmcanbfeaa", sum := "fcdbbc956447d03e91de9e4c669a8d9fc439084015684ddea7fdccb5798b6afb", func := "flocculus/flocculuslaw6.PickBelow", spec := "pickBelow", apart := false }
def PickBelowSaid : Prop := pickBelowRow.holds Try.pinned (OpenSpec.ofChange pickBelowSpec)

/-- ITS FALSE NEIGHBOUR: 'it returns false'. Refute it at one input. -/
def pickBelowWrong : ChangeSpec := { name := "pickBelow", fn := fun _ => fun
  | [d1, d2, d3] => { results := [.lit (.bool false)], args := [d1, d2, d3] }
  | _ => none }
def PickBelowWrongFalsely : Prop := pickBelowRow.holds Try.pinned (OpenSpec.ofChange pickBelowWrong)

/-- 'flocculuslaw6.PickEven': WHATEVER THE INPUT: true; the input reads as it did. -/
def pickEvenSpec : ChangeSpec := { name := "pickEven", fn := fun _ => fun
  | [d1, d2] => { results := [.lit (.bool true)], args := [d1, d2] }
  | _ => none }
def pickEvenRow : OpenClaim := { program := "ytgmknnmcanbfeaa", sum := "fcdbbc956447d03e91de9e4c669a8d9fc439084015684ddea7fdccb5798b6afb", func := "flocculus/flocculuslaw6.PickEven", spec := "pickEven", apart := false }
def PickEvenSaid : Prop := pickEvenRow.holds Try.pinned (OpenSpec.ofChange pickEvenSpec)

/-- ITS FALSE NEIGHBOUR: 'it returns false'. Refute it at one input. -/
def pickEvenWrong : ChangeSpec := { name := "pickEven", fn := fun _ => fun
  | [d1, d2] => { results := [.lit (.bool false)], args := [d1, d2] }
  | _ => none }
def PickEvenWrongFalsely : Prop := pickEvenRow.holds Try.pinned (OpenSpec.ofChange pickEvenWrong)

/-- 'flocculuslaw6.PickTells': WHATEVER THE INPUT: true; the input reads as it did. -/
def pickTellsSpec : ChangeSpec := { name := "pickTells", fn := fun _ => fun
  | [d1, d2, d3, d4, d5, d6] => { results := [.lit (.bool true)], args := [d1, d2, d3, d4, d5, d6] }
  | _ => none }
def pickTellsRow : OpenClaim := { program := "ytgmknnmcanbfeaa", sum := "fcdbbc956447d03e91de9e4c669a8d9fc439084015684ddea7fdccb5798b6afb", func := "flocculus/flocculuslaw6.PickTells", spec := "pickTells", apart := false }
def PickTellsSaid : Prop := pickTellsRow.holds Try.pinned (OpenSpec.ofChange pickTellsSpec)

/-- ITS FALSE NEIGHBOUR: 'it returns false'. Refute it at one input. -/
def pickTellsWrong : ChangeSpec := { name := "pickTells", fn := fun _ => fun
  | [d1, d2, d3, d4, d5, d6] => { results := [.lit (.bool false)], args := [d1, d2, d3, d4, d5, d6] }
  | _ => none }
def PickTellsWrongFalsely : Prop := pickTellsRow.holds Try.pinned (OpenSpec.ofChange pickTellsWrong)

/-- 'flocculuslaw11.BucketFour': WHATEVER THE INPUT: true; the input reads as it did. -/
def bucketFourSpec : ChangeSpec := { name := "bucketFour", fn := fun _ => fun
  | [d1, d2] => { results := [.lit (.bool true)], args := [d1, d2] }
  | _ => none }
def bucketFourRow : OpenClaim := { program := "ytgmknnmcanbfeaa", sum := "fcdbbc956447d03e91de9e4c669a8d9fc439084015684ddea7fdccb5798b6afb", func := "flocculus/flocculuslaw11.BucketFour", spec := "bucketFour", apart := false }
def BucketFourSaid : Prop := bucketFourRow.holds Try.pinned (OpenSpec.ofChange bucketFourSpec)

/-- ITS FALSE NEIGHBOUR: 'it returns false'. Refute it at one input. -/
def bucketFourWrong : ChangeSpec := { name := "bucketFour", fn := fun _ => fun
  | [d1, d2] => { results := [.lit (.bool false)], args := [d1, d2] }
  | _ => none }
def BucketFourWrongFalsely : Prop := bucketFourRow.holds Try.pinned (OpenSpec.ofChange bucketFourWrong)

/-- 'flocculuslaw8.MirrorPlays': WHATEVER THE INPUT: true; the input reads as it did. -/
def mirrorPlaysSpec : ChangeSpec := { name := "mirrorPlays", fn := fun _ => fun
  | [d1, d2] => { results := [.lit (.bool true)], args := [d1, d2] }
  | _ => none }
def mirrorPlaysRow : OpenClaim := { program := "ytgmknnmcanbfeaa", sum := "fcdbbc956447d03e91de9e4c669a8d9fc439084015684ddea7fdccb5798b6afb", func := "flocculus/flocculuslaw8.MirrorPlays", spec := "mirrorPlays", apart := false }
def MirrorPlaysSaid : Prop := mirrorPlaysRow.holds Try.pinned (OpenSpec.ofChange mirrorPlaysSpec)

/-- ITS FALSE NEIGHBOUR: 'it returns false'. Refute it at one input. -/
def mirrorPlaysWrong : ChangeSpec := { name := "mirrorPlays", fn := fun _ => fun
  | [d1, d2] => { results := [.lit (.bool false)], args := [d1, d2] }
  | _ => none }
def MirrorPlaysWrongFalsely : Prop := mirrorPlaysRow.holds Try.pinned (OpenSpec.ofChange mirrorPlaysWrong)

/-- 'flocculuslaw8.MirrorAlone': WHATEVER THE INPUT: true; the input reads as it did. -/
def mirrorAloneSpec : ChangeSpec := { name := "mirrorAlone", fn := fun _ => fun
  | [d1, d2, d3] => { results := [.lit (.bool true)], args := [d1, d2, d3] }
  | _ => none }
def mirrorAloneRow : OpenClaim := { program := "ytgmknnmcanbfeaa", sum := "fcdbbc956447d03e91de9e4c669a8d9fc439084015684ddea7fdccb5798b6afb", func := "flocculus/flocculuslaw8.MirrorAlone", spec := "mirrorAlone", apart := false }
def MirrorAloneSaid : Prop := mirrorAloneRow.holds Try.pinned (OpenSpec.ofChange mirrorAloneSpec)

/-- ITS FALSE NEIGHBOUR: 'it returns false'. Refute it at one input. -/
def mirrorAloneWrong : ChangeSpec := { name := "mirrorAlone", fn := fun _ => fun
  | [d1, d2, d3] => { results := [.lit (.bool false)], args := [d1, d2, d3] }
  | _ => none }
def MirrorAloneWrongFalsely : Prop := mirrorAloneRow.holds Try.pinned (OpenSpec.ofChange mirrorAloneWrong)

/- THE SECOND FORM. 'bulk': how many values and letters a reading holds, each counted each time it is reached (what is shared counts as often as it is met; a slice's spare places count too). A statement '..UptoSaid' is the law's where the arguments, and the package variables that the reading takes, are together of bulk at most 1048576: NARROWER than '..Said'. Prove '..Said' where nothing that the law and all that it calls make is longer than what came in: it says more and counts as full. Else prove '..UptoSaid'. A law counts once. -/
mutual
def uptoBulk {H : Type} : DataW H → Nat
  | .lit (.string bytes) => bytes.length + 1
  | .lit _ => 1
  | .nil => 1
  | .ptr d => uptoBulk d + 1
  | .slice elems spare => uptoBulkAll elems + uptoBulkAll spare + 1
  | .agg parts => uptoBulkAll parts + 1
  | .iface _ d => uptoBulk d + 1
  | .map entries => uptoBulkEntries entries + 1
  | .held _ => 1
def uptoBulkAll {H : Type} : List (DataW H) → Nat
  | [] => 0
  | d :: r => uptoBulk d + uptoBulkAll r
def uptoBulkEntries {H : Type} : List (Lit × DataW H) → Nat
  | [] => 0
  | x :: r => uptoBulkEntry x + uptoBulkEntries r
def uptoBulkEntry {H : Type} : Lit × DataW H → Nat
  | (.string bytes, d) => bytes.length + uptoBulk d + 1
  | (_, d) => uptoBulk d + 1
 end
def uptoSmall : (H : Type) → List (DataW H) → Bool := fun _ ds => decide (uptoBulkAll ds ≤ 1048576)
def OpenSpec.upto (s : _root_.Go.ChangeSpec) : _root_.Go.OpenSpec := { _root_.Go.OpenSpec.ofChange s with cond := some uptoSmall }

/-- 'flocculuslaw1.AddrCommon', WHERE WHAT IT READS IS OF BULK AT MOST 1048576: true; the input reads as it did. -/
def addrCommonUptoRow : OpenClaim := { program := "ytgmknnmcanbfeaa", sum := "fcdbbc956447d03e91de9e4c669a8d9fc439084015684ddea7fdccb5798b6afb", func := "flocculus/flocculuslaw1.AddrCommon", spec := "addrCommon", apart := false, narrowed := true }
def AddrCommonUptoSaid : Prop := addrCommonUptoRow.holds Try.pinned (OpenSpec.upto addrCommonSpec)

/-- 'flocculuslaw1.AddrCuts', WHERE WHAT IT READS IS OF BULK AT MOST 1048576: true; the input reads as it did. -/
def addrCutsUptoRow : OpenClaim := { program := "ytgmknnmcanbfeaa", sum := "fcdbbc956447d03e91de9e4c669a8d9fc439084015684ddea7fdccb5798b6afb", func := "flocculus/flocculuslaw1.AddrCuts", spec := "addrCuts", apart := false, narrowed := true }
def AddrCutsUptoSaid : Prop := addrCutsUptoRow.holds Try.pinned (OpenSpec.upto addrCutsSpec)

/-- 'flocculuslaw1.AddrTells', WHERE WHAT IT READS IS OF BULK AT MOST 1048576: true; the input reads as it did. -/
def addrTellsUptoRow : OpenClaim := { program := "ytgmknnmcanbfeaa", sum := "fcdbbc956447d03e91de9e4c669a8d9fc439084015684ddea7fdccb5798b6afb", func := "flocculus/flocculuslaw1.AddrTells", spec := "addrTells", apart := false, narrowed := true }
def AddrTellsUptoSaid : Prop := addrTellsUptoRow.holds Try.pinned (OpenSpec.upto addrTellsSpec)

/-- 'flocculuslaw1.AddrOrder', WHERE WHAT IT READS IS OF BULK AT MOST 1048576: true; the input reads as it did. -/
def addrOrderUptoRow : OpenClaim := { program := "ytgmknnmcanbfeaa", sum := "fcdbbc956447d03e91de9e4c669a8d9fc439084015684ddea7fdccb5798b6afb", func := "flocculus/flocculuslaw1.AddrOrder", spec := "addrOrder", apart := false, narrowed := true }
def AddrOrderUptoSaid : Prop := addrOrderUptoRow.holds Try.pinned (OpenSpec.upto addrOrderSpec)

/-- 'flocculuslaw7.NibblePlays', WHERE WHAT IT READS IS OF BULK AT MOST 1048576: true; the input reads as it did. -/
def nibblePlaysUptoRow : OpenClaim := { program := "ytgmknnmcanbfeaa", sum := "fcdbbc956447d03e91de9e4c669a8d9fc439084015684ddea7fdccb5798b6afb", func := "flocculus/flocculuslaw7.NibblePlays", spec := "nibblePlays", apart := false, narrowed := true }
def NibblePlaysUptoSaid : Prop := nibblePlaysUptoRow.holds Try.pinned (OpenSpec.upto nibblePlaysSpec)

/-- 'flocculuslaw7.NibbleSticks', WHERE WHAT IT READS IS OF BULK AT MOST 1048576: true; the input reads as it did. -/
def nibbleSticksUptoRow : OpenClaim := { program := "ytgmknnmcanbfeaa", sum := "fcdbbc956447d03e91de9e4c669a8d9fc439084015684ddea7fdccb5798b6afb", func := "flocculus/flocculuslaw7.NibbleSticks", spec := "nibbleSticks", apart := false, narrowed := true }
def NibbleSticksUptoSaid : Prop := nibbleSticksUptoRow.holds Try.pinned (OpenSpec.upto nibbleSticksSpec)

/-- 'flocculuslaw6.PickBelow', WHERE WHAT IT READS IS OF BULK AT MOST 1048576: true; the input reads as it did. -/
def pickBelowUptoRow : OpenClaim := { program := "ytgmknnmcanbfeaa", sum := "fcdbbc956447d03e91de9e4c669a8d9fc439084015684ddea7fdccb5798b6afb", func := "flocculus/flocculuslaw6.PickBelow", spec := "pickBelow", apart := false, narrowed := true }
def PickBelowUptoSaid : Prop := pickBelowUptoRow.holds Try.pinned (OpenSpec.upto pickBelowSpec)

/-- 'flocculuslaw6.PickEven', WHERE WHAT IT READS IS OF BULK AT MOST 1048576: true; the input reads as it did. -/
def pickEvenUptoRow : OpenClaim := { program := "ytgmknnmcanbfeaa", sum := "fcdbbc956447d03e91de9e4c669a8d9fc439084015684ddea7fdccb5798b6afb", func := "flocculus/flocculuslaw6.PickEven", spec := "pickEven", apart := false, narrowed := true }
def PickEvenUptoSaid : Prop := pickEvenUptoRow.holds Try.pinned (OpenSpec.upto pickEvenSpec)

/-- 'flocculuslaw6.PickTells', WHERE WHAT IT READS IS OF BULK AT MOST 1048576: true; the input reads as it did. -/
def pickTellsUptoRow : OpenClaim := { program := "ytgmknnmcanbfeaa", sum := "fcdbbc956447d03e91de9e4c669a8d9fc439084015684ddea7fdccb5798b6afb", func := "flocculus/flocculuslaw6.PickTells", spec := "pickTells", apart := false, narrowed := true }
def PickTellsUptoSaid : Prop := pickTellsUptoRow.holds Try.pinned (OpenSpec.upto pickTellsSpec)

/-- 'flocculuslaw11.BucketFour', WHERE WHAT IT READS IS OF BULK AT MOST 1048576: true; the input reads as it did. -/
def bucketFourUptoRow : OpenClaim := { program := "ytgmknnmcanbfeaa", sum := "fcdbbc956447d03e91de9e4c669a8d9fc439084015684ddea7fdccb5798b6afb", func := "flocculus/flocculuslaw11.BucketFour", spec := "bucketFour", apart := false, narrowed := true }
def BucketFourUptoSaid : Prop := bucketFourUptoRow.holds Try.pinned (OpenSpec.upto bucketFourSpec)

/-- 'flocculuslaw8.MirrorPlays', WHERE WHAT IT READS IS OF BULK AT MOST 1048576: true; the input reads as it did. -/
def mirrorPlaysUptoRow : OpenClaim := { program := "ytgmknnmcanbfeaa", sum := "fcdbbc956447d03e91de9e4c669a8d9fc439084015684ddea7fdccb5798b6afb", func := "flocculus/flocculuslaw8.MirrorPlays", spec := "mirrorPlays", apart := false, narrowed := true }
def MirrorPlaysUptoSaid : Prop := mirrorPlaysUptoRow.holds Try.pinned (OpenSpec.upto mirrorPlaysSpec)

/-- 'flocculuslaw8.MirrorAlone', WHERE WHAT IT READS IS OF BULK AT MOST 1048576: true; the input reads as it did. -/
def mirrorAloneUptoRow : OpenClaim := { program := "ytgmknnmcanbfeaa", sum := "fcdbbc956447d03e91de9e4c669a8d9fc439084015684ddea7fdccb5798b6afb", func := "flocculus/flocculuslaw8.MirrorAlone", spec := "mirrorAlone", apart := false, narrowed := true }
def MirrorAloneUptoSaid : Prop := mirrorAloneUptoRow.holds Try.pinned (OpenSpec.upto mirrorAloneSpec)

end Rows
end Go.Proofs.Ytgmknnmcanbfeaa
