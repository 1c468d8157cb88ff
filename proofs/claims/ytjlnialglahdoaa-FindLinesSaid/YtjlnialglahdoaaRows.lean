/-
  No cell of these rows narrows 'for every input' (looked for: loops, veiled, ifaces, maps, wideKeys, modest, calm, conditions, laid).
  DERIVED. THE GIVEN ROWS OF THIS SEAT. 5 by the template 'for every input the law returns true; each argument reads behind the call as it read before'; 0 by the template 'total and deterministic' (their statements: YtjlnialglahdoaaTotals.lean).
  GIVEN WITH THE SEED: the statements are not yours to turn. If you find one false, say at which input.
  Laid BY PROGRAM, IN A SANDBOX (cutbox-rows.mjs): the forced cells as the released guide's own fill.sh prints them over the translation 9ce17f1d53c5c9c9… (all of the seat's roots in one cut). By AI agents, Wed Nov 11 2026. No macro, syntax, notation, axiom, sorry.
-/
import Derived.Test.YtjlnialglahdoaaChecked
import GoSem.Claim
import GoSem.ClaimJoined
import GoSem.ClaimMapViews
import Derived.JoinedTies
import Derived.KernelRfl
namespace Go.Proofs.Ytjlnialglahdoaa
/- THE CELL 'sum', in the pinned program and in every row, IS THE sha256 OF THE DUMP (.gsa) THAT YtjlnialglahdoaaProg.lean LOADS. Nothing in Lean hashes anything: it is a label: what it is worth is what the hold of that sum in a sandbox is worth. -/
noncomputable def Try.pinned : Pinned := { name := "ytjlnialglahdoaa", sum := "9ce17f1d53c5c9c99ef00f949a42d14f51bc25c50bf691bd1bbd9d267357a33b", checked := Try.checked }
namespace Rows
def none {H : Type} : Left H := { results := [], args := [] }

/-- 'jalousielaw34.FindFits': WHATEVER THE INPUT: true; the input reads as it did. -/
def findFitsSpec : ChangeSpec := { name := "findFits", fn := fun _ => fun
  | [d1, d2] => { results := [.lit (.bool true)], args := [d1, d2] }
  | _ => none }
def findFitsRow : OpenClaim := { program := "ytjlnialglahdoaa", sum := "9ce17f1d53c5c9c99ef00f949a42d14f51bc25c50bf691bd1bbd9d267357a33b", func := "jalousie/jalousielaw34.FindFits", spec := "findFits", inPlace := ["internal/bytealg.IndexByteString"], apart := false }
def FindFitsSaid : Prop := findFitsRow.holds Try.pinned (OpenSpec.ofChange findFitsSpec)

/-- ITS FALSE NEIGHBOUR: 'it returns false'. Refute it at one input. -/
def findFitsWrong : ChangeSpec := { name := "findFits", fn := fun _ => fun
  | [d1, d2] => { results := [.lit (.bool false)], args := [d1, d2] }
  | _ => none }
def FindFitsWrongFalsely : Prop := findFitsRow.holds Try.pinned (OpenSpec.ofChange findFitsWrong)

/-- 'jalousielaw34.FindSpans': WHATEVER THE INPUT: true; the input reads as it did. -/
def findSpansSpec : ChangeSpec := { name := "findSpans", fn := fun _ => fun
  | [d1, d2] => { results := [.lit (.bool true)], args := [d1, d2] }
  | _ => none }
def findSpansRow : OpenClaim := { program := "ytjlnialglahdoaa", sum := "9ce17f1d53c5c9c99ef00f949a42d14f51bc25c50bf691bd1bbd9d267357a33b", func := "jalousie/jalousielaw34.FindSpans", spec := "findSpans", inPlace := ["internal/bytealg.IndexByteString"], apart := false }
def FindSpansSaid : Prop := findSpansRow.holds Try.pinned (OpenSpec.ofChange findSpansSpec)

/-- ITS FALSE NEIGHBOUR: 'it returns false'. Refute it at one input. -/
def findSpansWrong : ChangeSpec := { name := "findSpans", fn := fun _ => fun
  | [d1, d2] => { results := [.lit (.bool false)], args := [d1, d2] }
  | _ => none }
def FindSpansWrongFalsely : Prop := findSpansRow.holds Try.pinned (OpenSpec.ofChange findSpansWrong)

/-- 'jalousielaw34.FindBoth': WHATEVER THE INPUT: true; the input reads as it did. -/
def findBothSpec : ChangeSpec := { name := "findBoth", fn := fun _ => fun
  | [d1, d2, d3, d4] => { results := [.lit (.bool true)], args := [d1, d2, d3, d4] }
  | _ => none }
def findBothRow : OpenClaim := { program := "ytjlnialglahdoaa", sum := "9ce17f1d53c5c9c99ef00f949a42d14f51bc25c50bf691bd1bbd9d267357a33b", func := "jalousie/jalousielaw34.FindBoth", spec := "findBoth", inPlace := ["internal/bytealg.IndexByteString"], apart := false }
def FindBothSaid : Prop := findBothRow.holds Try.pinned (OpenSpec.ofChange findBothSpec)

/-- ITS FALSE NEIGHBOUR: 'it returns false'. Refute it at one input. -/
def findBothWrong : ChangeSpec := { name := "findBoth", fn := fun _ => fun
  | [d1, d2, d3, d4] => { results := [.lit (.bool false)], args := [d1, d2, d3, d4] }
  | _ => none }
def FindBothWrongFalsely : Prop := findBothRow.holds Try.pinned (OpenSpec.ofChange findBothWrong)

/-- 'jalousielaw34.FindAround': WHATEVER THE INPUT: true; the input reads as it did. -/
def findAroundSpec : ChangeSpec := { name := "findAround", fn := fun _ => fun
  | [d1, d2, d3] => { results := [.lit (.bool true)], args := [d1, d2, d3] }
  | _ => none }
def findAroundRow : OpenClaim := { program := "ytjlnialglahdoaa", sum := "9ce17f1d53c5c9c99ef00f949a42d14f51bc25c50bf691bd1bbd9d267357a33b", func := "jalousie/jalousielaw34.FindAround", spec := "findAround", inPlace := ["internal/bytealg.IndexByteString"], unfollowed := true, recurses := true, apart := false }
def FindAroundSaid : Prop := findAroundRow.holds Try.pinned (OpenSpec.ofChange findAroundSpec)

/-- ITS FALSE NEIGHBOUR: 'it returns false'. Refute it at one input. -/
def findAroundWrong : ChangeSpec := { name := "findAround", fn := fun _ => fun
  | [d1, d2, d3] => { results := [.lit (.bool false)], args := [d1, d2, d3] }
  | _ => none }
def FindAroundWrongFalsely : Prop := findAroundRow.holds Try.pinned (OpenSpec.ofChange findAroundWrong)

/-- 'jalousielaw34.FindLines': WHATEVER THE INPUT: true; the input reads as it did. -/
def findLinesSpec : ChangeSpec := { name := "findLines", fn := fun _ => fun
  | [d1, d2, d3] => { results := [.lit (.bool true)], args := [d1, d2, d3] }
  | _ => none }
def findLinesRow : OpenClaim := { program := "ytjlnialglahdoaa", sum := "9ce17f1d53c5c9c99ef00f949a42d14f51bc25c50bf691bd1bbd9d267357a33b", func := "jalousie/jalousielaw34.FindLines", spec := "findLines", inPlace := ["internal/bytealg.IndexByteString"], unfollowed := true, recurses := true, apart := false }
def FindLinesSaid : Prop := findLinesRow.holds Try.pinned (OpenSpec.ofChange findLinesSpec)

/-- ITS FALSE NEIGHBOUR: 'it returns false'. Refute it at one input. -/
def findLinesWrong : ChangeSpec := { name := "findLines", fn := fun _ => fun
  | [d1, d2, d3] => { results := [.lit (.bool false)], args := [d1, d2, d3] }
  | _ => none }
def FindLinesWrongFalsely : Prop := findLinesRow.holds Try.pinned (OpenSpec.ofChange findLinesWrong)

/- THE SECOND FORM. 'bulk': how many values and letters a reading holds, each counted each time it is reached (what is shared counts as often as it is met; a slice's spare places count too). A statement '..UptoSaid' is the law's where the arguments, and the package variables that the reading takes, are together of bulk at most 1048576: NARROWER than '..Said'. Prove '..Said' where nothing that the law and all that it calls make is longer than what came in: it says more and counts as full. Else prove '..UptoSaid'. A law counts once. -/
mutual
def uptoBulk {H : Type} : DataW H → Nat
  | .lit (.string bytes) => bytes.length + 1
  | .lit _ => 1
  | .nil => 1
  | .ptr d => uptoBulk d + 1
  | .slice elems spare => uptoBulkAll elems + uptoBulkAll spare + 1
  | .agg parts => uptoBulkAll parts + 1
  | .iface _ d => uptoBulk d + 1
  | .map entries => uptoBulkEntries entries + 1
  | .held _ => 1
def uptoBulkAll {H : Type} : List (DataW H) → Nat
  | [] => 0
  | d :: r => uptoBulk d + uptoBulkAll r
def uptoBulkEntries {H : Type} : List (Lit × DataW H) → Nat
  | [] => 0
  | x :: r => uptoBulkEntry x + uptoBulkEntries r
def uptoBulkEntry {H : Type} : Lit × DataW H → Nat
  | (.string bytes, d) => bytes.length + uptoBulk d + 1
  | (_, d) => uptoBulk d + 1
 end
def uptoSmall : (H : Type) → List (DataW H) → Bool := fun _ ds => decide (uptoBulkAll ds ≤ 1048576)
def OpenSpec.upto (s : _root_.Go.ChangeSpec) : _root_.Go.OpenSpec := { _root_.Go.OpenSpec.ofChange s with cond := some uptoSmall }

/-- 'jalousielaw34.FindFits', WHERE WHAT IT READS IS OF BULK AT MOST 1048576: true; the input reads as it did. -/
def findFitsUptoRow : OpenClaim := { program := "ytjlnialglahdoaa", sum := "9ce17f1d53c5c9c99ef00f949a42d14f51bc25c50bf691bd1bbd9d267357a33b", func := "jalousie/jalousielaw34.FindFits", spec := "findFits", inPlace := ["internal/bytealg.IndexByteString"], apart := false, narrowed := true }
def FindFitsUptoSaid : Prop := findFitsUptoRow.holds Try.pinned (OpenSpec.upto findFitsSpec)

/-- 'jalousielaw34.FindSpans', WHERE WHAT IT READS IS OF BULK AT MOST 1048576: true; the input reads as it did. -/
def findSpansUptoRow : OpenClaim := { program := "ytjlnialglahdoaa", sum := "9ce17f1d53c5c9c99ef00f949a42d14f51bc25c50bf691bd1bbd9d267357a33b", func := "jalousie/jalousielaw34.FindSpans", spec := "findSpans", inPlace := ["internal/bytealg.IndexByteString"], apart := false, narrowed := true }
def FindSpansUptoSaid : Prop := findSpansUptoRow.holds Try.pinned (OpenSpec.upto findSpansSpec)

/-- 'jalousielaw34.FindBoth', WHERE WHAT IT READS IS OF BULK AT MOST 1048576: true; the input reads as it did. -/
def findBothUptoRow : OpenClaim := { program := "ytjlnialglahdoaa", sum := "9ce17f1d53c5c9c99ef00f949a42d14f51bc25c50bf691bd1bbd9d267357a33b", func := "jalousie/jalousielaw34.FindBoth", spec := "findBoth", inPlace := ["internal/bytealg.IndexByteString"], apart := false, narrowed := true }
def FindBothUptoSaid : Prop := findBothUptoRow.holds Try.pinned (OpenSpec.upto findBothSpec)

/-- 'jalousielaw34.FindAround', WHERE WHAT IT READS IS OF BULK AT MOST 1048576: true; the input reads as it did. -/
def findAroundUptoRow : OpenClaim := { program := "ytjlnialglahdoaa", sum := "9ce17f1d53c5c9c99ef00f949a42d14f51bc25c50bf691bd1bbd9d267357a33b", func := "jalousie/jalousielaw34.FindAround", spec := "findAround", inPlace := ["internal/bytealg.IndexByteString"], unfollowed := true, recurses := true, apart := false, narrowed := true }
def FindAroundUptoSaid : Prop := findAroundUptoRow.holds Try.pinned (OpenSpec.upto findAroundSpec)

/-- 'jalousielaw34.FindLines', WHERE WHAT IT READS IS OF BULK AT MOST 1048576: true; the input reads as it did. -/
def findLinesUptoRow : OpenClaim := { program := "ytjlnialglahdoaa", sum := "9ce17f1d53c5c9c99ef00f949a42d14f51bc25c50bf691bd1bbd9d267357a33b", func := "jalousie/jalousielaw34.FindLines", spec := "findLines", inPlace := ["internal/bytealg.IndexByteString"], unfollowed := true, recurses := true, apart := false, narrowed := true }
def FindLinesUptoSaid : Prop := findLinesUptoRow.holds Try.pinned (OpenSpec.upto findLinesSpec)

end Rows
end Go.Proofs.Ytjlnialglahdoaa
