/-
  NARROWER THAN 'FOR EVERY INPUT', by the rows' own cells (each row's printed sentence says how): BatchPlays: loops · BatchNone: loops.
  DERIVED. THE GIVEN ROWS OF THIS SEAT. 7 by the template 'for every input the law returns true; each argument reads behind the call as it read before'; 0 by the template 'total and deterministic' (their statements: YtcnecjjgnnkjkaaTotals.lean).
  GIVEN WITH THE SEED: the statements are not yours to turn. If you find one false, say at which input.
  Laid BY PROGRAM, IN A SANDBOX (cutbox-rows.mjs): the forced cells as the released guide's own fill.sh prints them over the translation 22b1e458f44651ca… (all of the seat's roots in one cut). By AI agents, Wed Nov 11 2026. No macro, syntax, notation, axiom, sorry.
-/
import Derived.Test.YtcnecjjgnnkjkaaChecked
import GoSem.Claim
import GoSem.ClaimJoined
import GoSem.ClaimMapViews
import Derived.JoinedTies
import Derived.KernelRfl
namespace Go.Proofs.Ytcnecjjgnnkjkaa
/- THE CELL 'sum', in the pinned program and in every row, IS THE sha256 OF THE DUMP (.gsa) THAT YtcnecjjgnnkjkaaProg.lean LOADS. Nothing in Lean hashes anything: it is a label: what it is worth is what the hold of that sum in a sandbox is worth. -/
noncomputable def Try.pinned : Pinned := { name := "ytcnecjjgnnkjkaa", sum := "22b1e458f44651cabe8aae266695de064e357fb1091d3b91f706a2ca086457d8", checked := Try.checked }
namespace Rows
def none {H : Type} : Left H := { results := [], args := [] }

/-- 'flocculuslaw10.WeighTells': WHATEVER THE INPUT: true; the input reads as it did. -/
def weighTellsSpec : ChangeSpec := { name := "weighTells", fn := fun _ => fun
  | [d1, d2, d3, d4] => { results := [.lit (.bool true)], args := [d1, d2, d3, d4] }
  | _ => none }
def weighTellsRow : OpenClaim := { program := "ytcnecjjgnnkjkaa", sum := "22b1e458f44651cabe8aae266695de064e357fb1091d3b91f706a2ca086457d8", func := "flocculus/flocculuslaw10.WeighTells", spec := "weighTells", inPlace := ["math.archFloor", "math.Float64bits", "math.Float64frombits", "math.archTrunc"], apart := false }
def WeighTellsSaid : Prop := weighTellsRow.holds Try.pinned (OpenSpec.ofChange weighTellsSpec)

/-- ITS FALSE NEIGHBOUR: 'it returns false'. Refute it at one input. -/
def weighTellsWrong : ChangeSpec := { name := "weighTells", fn := fun _ => fun
  | [d1, d2, d3, d4] => { results := [.lit (.bool false)], args := [d1, d2, d3, d4] }
  | _ => none }
def WeighTellsWrongFalsely : Prop := weighTellsRow.holds Try.pinned (OpenSpec.ofChange weighTellsWrong)

/-- 'flocculuslaw10.WeighEdges': WHATEVER THE INPUT: true; the input reads as it did. -/
def weighEdgesSpec : ChangeSpec := { name := "weighEdges", fn := fun _ => fun
  | [d] => { results := [.lit (.bool true)], args := [d] }
  | _ => none }
def weighEdgesRow : OpenClaim := { program := "ytcnecjjgnnkjkaa", sum := "22b1e458f44651cabe8aae266695de064e357fb1091d3b91f706a2ca086457d8", func := "flocculus/flocculuslaw10.WeighEdges", spec := "weighEdges", inPlace := ["math.archFloor", "math.Float64bits", "math.Float64frombits", "math.archTrunc"], apart := false }
def WeighEdgesSaid : Prop := weighEdgesRow.holds Try.pinned (OpenSpec.ofChange weighEdgesSpec)

/-- ITS FALSE NEIGHBOUR: 'it returns false'. Refute it at one input. -/
def weighEdgesWrong : ChangeSpec := { name := "weighEdges", fn := fun _ => fun
  | [d] => { results := [.lit (.bool false)], args := [d] }
  | _ => none }
def WeighEdgesWrongFalsely : Prop := weighEdgesRow.holds Try.pinned (OpenSpec.ofChange weighEdgesWrong)

/-- 'flocculuslaw10.WeighAll': WHATEVER THE INPUT: true; the input reads as it did. -/
def weighAllSpec : ChangeSpec := { name := "weighAll", fn := fun _ => fun
  | [d1, d2, d3] => { results := [.lit (.bool true)], args := [d1, d2, d3] }
  | _ => none }
def weighAllRow : OpenClaim := { program := "ytcnecjjgnnkjkaa", sum := "22b1e458f44651cabe8aae266695de064e357fb1091d3b91f706a2ca086457d8", func := "flocculus/flocculuslaw10.WeighAll", spec := "weighAll", inPlace := ["math.archFloor", "math.Float64bits", "math.Float64frombits", "math.archTrunc"], apart := false }
def WeighAllSaid : Prop := weighAllRow.holds Try.pinned (OpenSpec.ofChange weighAllSpec)

/-- ITS FALSE NEIGHBOUR: 'it returns false'. Refute it at one input. -/
def weighAllWrong : ChangeSpec := { name := "weighAll", fn := fun _ => fun
  | [d1, d2, d3] => { results := [.lit (.bool false)], args := [d1, d2, d3] }
  | _ => none }
def WeighAllWrongFalsely : Prop := weighAllRow.holds Try.pinned (OpenSpec.ofChange weighAllWrong)

/-- 'flocculuslaw10.WeighTwice': WHATEVER THE INPUT: true; the input reads as it did. -/
def weighTwiceSpec : ChangeSpec := { name := "weighTwice", fn := fun _ => fun
  | [d1, d2, d3] => { results := [.lit (.bool true)], args := [d1, d2, d3] }
  | _ => none }
def weighTwiceRow : OpenClaim := { program := "ytcnecjjgnnkjkaa", sum := "22b1e458f44651cabe8aae266695de064e357fb1091d3b91f706a2ca086457d8", func := "flocculus/flocculuslaw10.WeighTwice", spec := "weighTwice", inPlace := ["math.archFloor", "math.Float64bits", "math.Float64frombits", "math.archTrunc"], apart := false }
def WeighTwiceSaid : Prop := weighTwiceRow.holds Try.pinned (OpenSpec.ofChange weighTwiceSpec)

/-- ITS FALSE NEIGHBOUR: 'it returns false'. Refute it at one input. -/
def weighTwiceWrong : ChangeSpec := { name := "weighTwice", fn := fun _ => fun
  | [d1, d2, d3] => { results := [.lit (.bool false)], args := [d1, d2, d3] }
  | _ => none }
def WeighTwiceWrongFalsely : Prop := weighTwiceRow.holds Try.pinned (OpenSpec.ofChange weighTwiceWrong)

/-- 'flocculuslaw25.BatchPlays': WHATEVER THE INPUT: true; the input reads as it did. -/
def batchPlaysSpec : ChangeSpec := { name := "batchPlays", fn := fun _ => fun
  | [d1, d2, d3, d4] => { results := [.lit (.bool true)], args := [d1, d2, d3, d4] }
  | _ => none }
def batchPlaysRow : OpenClaim := { program := "ytcnecjjgnnkjkaa", sum := "22b1e458f44651cabe8aae266695de064e357fb1091d3b91f706a2ca086457d8", func := "flocculus/flocculuslaw25.BatchPlays", spec := "batchPlays", unfollowed := true, recurses := true, loops := true, apart := false }
def BatchPlaysSaid : Prop := batchPlaysRow.holds Try.pinned (OpenSpec.ofChange batchPlaysSpec)

/-- ITS FALSE NEIGHBOUR: 'it returns false'. Refute it at one input. -/
def batchPlaysWrong : ChangeSpec := { name := "batchPlays", fn := fun _ => fun
  | [d1, d2, d3, d4] => { results := [.lit (.bool false)], args := [d1, d2, d3, d4] }
  | _ => none }
def BatchPlaysWrongFalsely : Prop := batchPlaysRow.holds Try.pinned (OpenSpec.ofChange batchPlaysWrong)

/-- 'flocculuslaw25.BatchNone': WHATEVER THE INPUT: true; the input reads as it did. -/
def batchNoneSpec : ChangeSpec := { name := "batchNone", fn := fun _ => fun
  | [d1, d2, d3] => { results := [.lit (.bool true)], args := [d1, d2, d3] }
  | _ => none }
def batchNoneRow : OpenClaim := { program := "ytcnecjjgnnkjkaa", sum := "22b1e458f44651cabe8aae266695de064e357fb1091d3b91f706a2ca086457d8", func := "flocculus/flocculuslaw25.BatchNone", spec := "batchNone", unfollowed := true, recurses := true, loops := true, apart := false }
def BatchNoneSaid : Prop := batchNoneRow.holds Try.pinned (OpenSpec.ofChange batchNoneSpec)

/-- ITS FALSE NEIGHBOUR: 'it returns false'. Refute it at one input. -/
def batchNoneWrong : ChangeSpec := { name := "batchNone", fn := fun _ => fun
  | [d1, d2, d3] => { results := [.lit (.bool false)], args := [d1, d2, d3] }
  | _ => none }
def BatchNoneWrongFalsely : Prop := batchNoneRow.holds Try.pinned (OpenSpec.ofChange batchNoneWrong)

/-- 'flocculuslaw25.BatchFull': WHATEVER THE INPUT: true; the input reads as it did. -/
def batchFullSpec : ChangeSpec := { name := "batchFull", fn := fun _ => fun
  | [d1, d2, d3] => { results := [.lit (.bool true)], args := [d1, d2, d3] }
  | _ => none }
def batchFullRow : OpenClaim := { program := "ytcnecjjgnnkjkaa", sum := "22b1e458f44651cabe8aae266695de064e357fb1091d3b91f706a2ca086457d8", func := "flocculus/flocculuslaw25.BatchFull", spec := "batchFull", unfollowed := true, recurses := true, apart := false }
def BatchFullSaid : Prop := batchFullRow.holds Try.pinned (OpenSpec.ofChange batchFullSpec)

/-- ITS FALSE NEIGHBOUR: 'it returns false'. Refute it at one input. -/
def batchFullWrong : ChangeSpec := { name := "batchFull", fn := fun _ => fun
  | [d1, d2, d3] => { results := [.lit (.bool false)], args := [d1, d2, d3] }
  | _ => none }
def BatchFullWrongFalsely : Prop := batchFullRow.holds Try.pinned (OpenSpec.ofChange batchFullWrong)

/- THE SECOND FORM. 'bulk': how many values and letters a reading holds, each counted each time it is reached (what is shared counts as often as it is met; a slice's spare places count too). A statement '..UptoSaid' is the law's where the arguments, and the package variables that the reading takes, are together of bulk at most 1048576: NARROWER than '..Said'. Prove '..Said' where nothing that the law and all that it calls make is longer than what came in: it says more and counts as full. Else prove '..UptoSaid'. A law counts once. -/
mutual
def uptoBulk {H : Type} : DataW H → Nat
  | .lit (.string bytes) => bytes.length + 1
  | .lit _ => 1
  | .nil => 1
  | .ptr d => uptoBulk d + 1
  | .slice elems spare => uptoBulkAll elems + uptoBulkAll spare + 1
  | .agg parts => uptoBulkAll parts + 1
  | .iface _ d => uptoBulk d + 1
  | .map entries => uptoBulkEntries entries + 1
  | .held _ => 1
def uptoBulkAll {H : Type} : List (DataW H) → Nat
  | [] => 0
  | d :: r => uptoBulk d + uptoBulkAll r
def uptoBulkEntries {H : Type} : List (Lit × DataW H) → Nat
  | [] => 0
  | x :: r => uptoBulkEntry x + uptoBulkEntries r
def uptoBulkEntry {H : Type} : Lit × DataW H → Nat
  | (.string bytes, d) => bytes.length + uptoBulk d + 1
  | (_, d) => uptoBulk d + 1
 end
def uptoSmall : (H : Type) → List (DataW H) → Bool := fun _ ds => decide (uptoBulkAll ds ≤ 1048576)
def OpenSpec.upto (s : _root_.Go.ChangeSpec) : _root_.Go.OpenSpec := { _root_.Go.OpenSpec.ofChange s with cond := some uptoSmall }

/-- 'flocculuslaw10.WeighTells', WHERE WHAT IT READS IS OF BULK AT MOST 1048576: true; the input reads as it did. -/
def weighTellsUptoRow : OpenClaim := { program := "ytcnecjjgnnkjkaa", sum := "22b1e458f44651cabe8aae266695de064e357fb1091d3b91f706a2ca086457d8", func := "flocculus/flocculuslaw10.WeighTells", spec := "weighTells", inPlace := ["math.archFloor", "math.Float64bits", "math.Float64frombits", "math.archTrunc"], apart := false, narrowed := true }
def WeighTellsUptoSaid : Prop := weighTellsUptoRow.holds Try.pinned (OpenSpec.upto weighTellsSpec)

/-- 'flocculuslaw10.WeighEdges', WHERE WHAT IT READS IS OF BULK AT MOST 1048576: true; the input reads as it did. -/
def weighEdgesUptoRow : OpenClaim := { program := "ytcnecjjgnnkjkaa", sum := "22b1e458f44651cabe8aae266695de064e357fb1091d3b91f706a2ca086457d8", func := "flocculus/flocculuslaw10.WeighEdges", spec := "weighEdges", inPlace := ["math.archFloor", "math.Float64bits", "math.Float64frombits", "math.archTrunc"], apart := false, narrowed := true }
def WeighEdgesUptoSaid : Prop := weighEdgesUptoRow.holds Try.pinned (OpenSpec.upto weighEdgesSpec)

/-- 'flocculuslaw10.WeighAll', WHERE WHAT IT READS IS OF BULK AT MOST 1048576: true; the input reads as it did. -/
def weighAllUptoRow : OpenClaim := { program := "ytcnecjjgnnkjkaa", sum := "22b1e458f44651cabe8aae266695de064e357fb1091d3b91f706a2ca086457d8", func := "flocculus/flocculuslaw10.WeighAll", spec := "weighAll", inPlace := ["math.archFloor", "math.Float64bits", "math.Float64frombits", "math.archTrunc"], apart := false, narrowed := true }
def WeighAllUptoSaid : Prop := weighAllUptoRow.holds Try.pinned (OpenSpec.upto weighAllSpec)

/-- 'flocculuslaw10.WeighTwice', WHERE WHAT IT READS IS OF BULK AT MOST 1048576: true; the input reads as it did. -/
def weighTwiceUptoRow : OpenClaim := { program := "ytcnecjjgnnkjkaa", sum := "22b1e458f44651cabe8aae266695de064e357fb1091d3b91f706a2ca086457d8", func := "flocculus/flocculuslaw10.WeighTwice", spec := "weighTwice", inPlace := ["math.archFloor", "math.Float64bits", "math.Float64frombits", "math.archTrunc"], apart := false, narrowed := true }
def WeighTwiceUptoSaid : Prop := weighTwiceUptoRow.holds Try.pinned (OpenSpec.upto weighTwiceSpec)

/-- 'flocculuslaw25.BatchPlays', WHERE WHAT IT READS IS OF BULK AT MOST 1048576: true; the input reads as it did. -/
def batchPlaysUptoRow : OpenClaim := { program := "ytcnecjjgnnkjkaa", sum := "22b1e458f44651cabe8aae266695de064e357fb1091d3b91f706a2ca086457d8", func := "flocculus/flocculuslaw25.BatchPlays", spec := "batchPlays", unfollowed := true, recurses := true, loops := true, apart := false, narrowed := true }
def BatchPlaysUptoSaid : Prop := batchPlaysUptoRow.holds Try.pinned (OpenSpec.upto batchPlaysSpec)

/-- 'flocculuslaw25.BatchNone', WHERE WHAT IT READS IS OF BULK AT MOST 1048576: true; the input reads as it did. -/
def batchNoneUptoRow : OpenClaim := { program := "ytcnecjjgnnkjkaa", sum := "22b1e458f44651cabe8aae266695de064e357fb1091d3b91f706a2ca086457d8", func := "flocculus/flocculuslaw25.BatchNone", spec := "batchNone", unfollowed := true, recurses := true, loops := true, apart := false, narrowed := true }
def BatchNoneUptoSaid : Prop := batchNoneUptoRow.holds Try.pinned (OpenSpec.upto batchNoneSpec)

/-- 'flocculuslaw25.BatchFull', WHERE WHAT IT READS IS OF BULK AT MOST 1048576: true; the input reads as it did. -/
def batchFullUptoRow : OpenClaim := { program := "ytcnecjjgnnkjkaa", sum := "22b1e458f44651cabe8aae266695de064e357fb1091d3b91f706a2ca086457d8", func := "flocculus/flocculuslaw25.BatchFull", spec := "batchFull", unfollowed := true, recurses := true, apart := false, narrowed := true }
def BatchFullUptoSaid : Prop := batchFullUptoRow.holds Try.pinned (OpenSpec.upto batchFullSpec)

end Rows
end Go.Proofs.Ytcnecjjgnnkjkaa
