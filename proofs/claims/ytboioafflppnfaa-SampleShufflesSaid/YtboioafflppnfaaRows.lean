/-
  No cell of these rows narrows 'for every input' (looked for: loops, veiled, ifaces, maps, wideKeys, modest, calm, conditions, laid).
  DERIVED. THE GIVEN ROWS OF THIS SEAT. 4 by the template 'for every input the law returns true; each argument reads behind the call as it read before'; 0 by the template 'total and deterministic' (their statements: YtboioafflppnfaaTotals.lean).
  GIVEN WITH THE SEED: the statements are not yours to turn. If you find one false, say at which input.
  Laid BY PROGRAM, IN A SANDBOX (cutbox-rows.mjs): the forced cells as the released guide's own fill.sh prints them over the translation 57f4b96f76798872… (all of the seat's roots in one cut). By AI agents, Wed Nov 11 2026. No macro, syntax, notation, axiom, sorry.
-/
import Derived.Test.YtboioafflppnfaaChecked
import GoSem.Claim
import GoSem.ClaimJoined
import GoSem.ClaimMapViews
import Derived.JoinedTies
import Derived.KernelRfl
namespace Go.Proofs.Ytboioafflppnfaa
/- THE CELL 'sum', in the pinned program and in every row, IS THE sha256 OF THE DUMP (.gsa) THAT YtboioafflppnfaaProg.lean LOADS. Nothing in Lean hashes anything: it is a label: what it is worth is what the hold of that sum in a sandbox is worth. -/
noncomputable def Try.pinned : Pinned := { name := "ytboioafflppnfaa", sum := "57f4b96f767988720a5ceb71cb95d7edf95ddc286c4f2393b7d7e20bac82ee7c", checked := Try.checked }
namespace Rows
def none {H : Type} : Left H := { results := [], args := [] }

/-- 'trefoillaw29.SampleShuffles': WHATEVER THE INPUT: true; the input reads as it did. -/
def sampleShufflesSpec : ChangeSpec := { name := "sampleShuffles", fn := fun _ => fun
  | [d1, d2, d3] => { results := [.lit (.bool true)], args := [d1, d2, d3] }
  | _ => none }
def sampleShufflesRow : OpenClaim := { program := "ytboioafflppnfaa", sum := "57f4b96f767988720a5ceb71cb95d7edf95ddc286c4f2393b7d7e20bac82ee7c", func := "trefoil/trefoillaw29.SampleShuffles", spec := "sampleShuffles", recurses := true, apart := false }
def SampleShufflesSaid : Prop := sampleShufflesRow.holds Try.pinned (OpenSpec.ofChange sampleShufflesSpec)

/-- ITS FALSE NEIGHBOUR: 'it returns false'. Refute it at one input. -/
def sampleShufflesWrong : ChangeSpec := { name := "sampleShuffles", fn := fun _ => fun
  | [d1, d2, d3] => { results := [.lit (.bool false)], args := [d1, d2, d3] }
  | _ => none }
def SampleShufflesWrongFalsely : Prop := sampleShufflesRow.holds Try.pinned (OpenSpec.ofChange sampleShufflesWrong)

/-- 'trefoillaw29.SampleWhole': WHATEVER THE INPUT: true; the input reads as it did. -/
def sampleWholeSpec : ChangeSpec := { name := "sampleWhole", fn := fun _ => fun
  | [d1, d2, d3] => { results := [.lit (.bool true)], args := [d1, d2, d3] }
  | _ => none }
def sampleWholeRow : OpenClaim := { program := "ytboioafflppnfaa", sum := "57f4b96f767988720a5ceb71cb95d7edf95ddc286c4f2393b7d7e20bac82ee7c", func := "trefoil/trefoillaw29.SampleWhole", spec := "sampleWhole", recurses := true, apart := false }
def SampleWholeSaid : Prop := sampleWholeRow.holds Try.pinned (OpenSpec.ofChange sampleWholeSpec)

/-- ITS FALSE NEIGHBOUR: 'it returns false'. Refute it at one input. -/
def sampleWholeWrong : ChangeSpec := { name := "sampleWhole", fn := fun _ => fun
  | [d1, d2, d3] => { results := [.lit (.bool false)], args := [d1, d2, d3] }
  | _ => none }
def SampleWholeWrongFalsely : Prop := sampleWholeRow.holds Try.pinned (OpenSpec.ofChange sampleWholeWrong)

/-- 'trefoillaw30.CheckCatches': WHATEVER THE INPUT: true; the input reads as it did. -/
def checkCatchesSpec : ChangeSpec := { name := "checkCatches", fn := fun _ => fun
  | [d1, d2, d3, d4, d5] => { results := [.lit (.bool true)], args := [d1, d2, d3, d4, d5] }
  | _ => none }
def checkCatchesRow : OpenClaim := { program := "ytboioafflppnfaa", sum := "57f4b96f767988720a5ceb71cb95d7edf95ddc286c4f2393b7d7e20bac82ee7c", func := "trefoil/trefoillaw30.CheckCatches", spec := "checkCatches", unfollowed := true, recurses := true, apart := false }
def CheckCatchesSaid : Prop := checkCatchesRow.holds Try.pinned (OpenSpec.ofChange checkCatchesSpec)

/-- ITS FALSE NEIGHBOUR: 'it returns false'. Refute it at one input. -/
def checkCatchesWrong : ChangeSpec := { name := "checkCatches", fn := fun _ => fun
  | [d1, d2, d3, d4, d5] => { results := [.lit (.bool false)], args := [d1, d2, d3, d4, d5] }
  | _ => none }
def CheckCatchesWrongFalsely : Prop := checkCatchesRow.holds Try.pinned (OpenSpec.ofChange checkCatchesWrong)

/-- 'trefoillaw30.CheckNobody': WHATEVER THE INPUT: true; the input reads as it did. -/
def checkNobodySpec : ChangeSpec := { name := "checkNobody", fn := fun _ => fun
  | [d1, d2] => { results := [.lit (.bool true)], args := [d1, d2] }
  | _ => none }
def checkNobodyRow : OpenClaim := { program := "ytboioafflppnfaa", sum := "57f4b96f767988720a5ceb71cb95d7edf95ddc286c4f2393b7d7e20bac82ee7c", func := "trefoil/trefoillaw30.CheckNobody", spec := "checkNobody", unfollowed := true, recurses := true, apart := false }
def CheckNobodySaid : Prop := checkNobodyRow.holds Try.pinned (OpenSpec.ofChange checkNobodySpec)

/-- ITS FALSE NEIGHBOUR: 'it returns false'. Refute it at one input. -/
def checkNobodyWrong : ChangeSpec := { name := "checkNobody", fn := fun _ => fun
  | [d1, d2] => { results := [.lit (.bool false)], args := [d1, d2] }
  | _ => none }
def CheckNobodyWrongFalsely : Prop := checkNobodyRow.holds Try.pinned (OpenSpec.ofChange checkNobodyWrong)

/- THE SECOND FORM. 'bulk': how many values and letters a reading holds, each counted each time it is reached (what is shared counts as often as it is met; a slice's spare places count too). A statement '..UptoSaid' is the law's where the arguments, and the package variables that the reading takes, are together of bulk at most 1048576: NARROWER than '..Said'. Prove '..Said' where nothing that the law and all that it calls make is longer than what came in: it says more and counts as full. Else prove '..UptoSaid'. A law counts once. -/
mutual
def uptoBulk {H : Type} : DataW H → Nat
  | .lit (.string bytes) => bytes.length + 1
  | .lit _ => 1
  | .nil => 1
  | .ptr d => uptoBulk d + 1
  | .slice elems spare => uptoBulkAll elems + uptoBulkAll spare + 1
  | .agg parts => uptoBulkAll parts + 1
  | .iface _ d => uptoBulk d + 1
  | .map entries => uptoBulkEntries entries + 1
  | .held _ => 1
def uptoBulkAll {H : Type} : List (DataW H) → Nat
  | [] => 0
  | d :: r => uptoBulk d + uptoBulkAll r
def uptoBulkEntries {H : Type} : List (Lit × DataW H) → Nat
  | [] => 0
  | x :: r => uptoBulkEntry x + uptoBulkEntries r
def uptoBulkEntry {H : Type} : Lit × DataW H → Nat
  | (.string bytes, d) => bytes.length + uptoBulk d + 1
  | (_, d) => uptoBulk d + 1
 end
def uptoSmall : (H : Type) → List (DataW H) → Bool := fun _ ds => decide (uptoBulkAll ds ≤ 1048576)
def OpenSpec.upto (s : _root_.Go.ChangeSpec) : _root_.Go.OpenSpec := { _root_.Go.OpenSpec.ofChange s with cond := some uptoSmall }

/-- 'trefoillaw29.SampleShuffles', WHERE WHAT IT READS IS OF BULK AT MOST 1048576: true; the input reads as it did. -/
def sampleShufflesUptoRow : OpenClaim := { program := "ytboioafflppnfaa", sum := "57f4b96f767988720a5ceb71cb95d7edf95ddc286c4f2393b7d7e20bac82ee7c", func := "trefoil/trefoillaw29.SampleShuffles", spec := "sampleShuffles", recurses := true, apart := false, narrowed := true }
def SampleShufflesUptoSaid : Prop := sampleShufflesUptoRow.holds Try.pinned (OpenSpec.upto sampleShufflesSpec)

/-- 'trefoillaw29.SampleWhole', WHERE WHAT IT READS IS OF BULK AT MOST 1048576: true; the input reads as it did. -/
def sampleWholeUptoRow : OpenClaim := { program := "ytboioafflppnfaa", sum := "57f4b96f767988720a5ceb71cb95d7edf95ddc286c4f2393b7d7e20bac82ee7c", func := "trefoil/trefoillaw29.SampleWhole", spec := "sampleWhole", recurses := true, apart := false, narrowed := true }
def SampleWholeUptoSaid : Prop := sampleWholeUptoRow.holds Try.pinned (OpenSpec.upto sampleWholeSpec)

/-- 'trefoillaw30.CheckCatches', WHERE WHAT IT READS IS OF BULK AT MOST 1048576: true; the input reads as it did. -/
def checkCatchesUptoRow : OpenClaim := { program := "ytboioafflppnfaa", sum := "57f4b96f767988720a5ceb71cb95d7edf95ddc286c4f2393b7d7e20bac82ee7c", func := "trefoil/trefoillaw30.CheckCatches", spec := "checkCatches", unfollowed := true, recurses := true, apart := false, narrowed := true }
def CheckCatchesUptoSaid : Prop := checkCatchesUptoRow.holds Try.pinned (OpenSpec.upto checkCatchesSpec)

/-- 'trefoillaw30.CheckNobody', WHERE WHAT IT READS IS OF BULK AT MOST 1048576: true; the input reads as it did. -/
def checkNobodyUptoRow : OpenClaim := { program := "ytboioafflppnfaa", sum := "57f4b96f767988720a5ceb71cb95d7edf95ddc286c4f2393b7d7e20bac82ee7c", func := "trefoil/trefoillaw30.CheckNobody", spec := "checkNobody", unfollowed := true, recurses := true, apart := false, narrowed := true }
def CheckNobodyUptoSaid : Prop := checkNobodyUptoRow.holds Try.pinned (OpenSpec.upto checkNobodySpec)

end Rows
end Go.Proofs.Ytboioafflppnfaa
