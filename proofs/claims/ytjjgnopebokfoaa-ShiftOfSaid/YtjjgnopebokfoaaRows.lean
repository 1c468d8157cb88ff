/-
  No cell of these rows narrows 'for every input' (looked for: loops, veiled, ifaces, maps, wideKeys, modest, calm, conditions, laid).
  DERIVED. THE GIVEN ROWS OF THIS SEAT. 5 by the template 'for every input the law returns true; each argument reads behind the call as it read before'; 0 by the template 'total and deterministic' (their statements: YtjjgnopebokfoaaTotals.lean).
  GIVEN WITH THE SEED: the statements are not yours to turn. If you find one false, say at which input.
  Laid BY PROGRAM, IN A SANDBOX (cutbox-rows.mjs): the forced cells as the released guide's own fill.sh prints them over the translation 505ed432f40bce01… (all of the seat's roots in one cut). By AI agents, Wed Nov 11 2026. No macro, syntax, notation, axiom, sorry.
-/
import Derived.Test.YtjjgnopebokfoaaChecked
import GoSem.Claim
import GoSem.ClaimJoined
import GoSem.ClaimMapViews
import Derived.JoinedTies
import Derived.KernelRfl
namespace Go.Proofs.Ytjjgnopebokfoaa
/- THE CELL 'sum', in the pinned program and in every row, IS THE sha256 OF THE DUMP (.gsa) THAT YtjjgnopebokfoaaProg.lean LOADS. Nothing in Lean hashes anything: it is a label: what it is worth is what the hold of that sum in a sandbox is worth. -/
noncomputable def Try.pinned : Pinned := { name := "ytjjgnopebokfoaa", sum := "505ed432f40bce019d296821a514eed7b9b91a8565fd448001648e360b1f4ad2", checked := Try.checked }
namespace Rows
def none {H : Type} : Left H := { results := [], args := [] }

/-- 'jalousielaw38.ShiftBehind': WHATEVER THE INPUT: true; the input reads as it did. -/
def shiftBehindSpec : ChangeSpec := { name := "shiftBehind", fn := fun _ => fun
  | [d1, d2] => { results := [.lit (.bool true)], args := [d1, d2] }
  | _ => none }
def shiftBehindRow : OpenClaim := { program := "ytjjgnopebokfoaa", sum := "505ed432f40bce019d296821a514eed7b9b91a8565fd448001648e360b1f4ad2", func := "jalousie/jalousielaw38.ShiftBehind", spec := "shiftBehind", unfollowed := true, recurses := true, apart := false }
def ShiftBehindSaid : Prop := shiftBehindRow.holds Try.pinned (OpenSpec.ofChange shiftBehindSpec)

/-- ITS FALSE NEIGHBOUR: 'it returns false'. Refute it at one input. -/
def shiftBehindWrong : ChangeSpec := { name := "shiftBehind", fn := fun _ => fun
  | [d1, d2] => { results := [.lit (.bool false)], args := [d1, d2] }
  | _ => none }
def ShiftBehindWrongFalsely : Prop := shiftBehindRow.holds Try.pinned (OpenSpec.ofChange shiftBehindWrong)

/-- 'jalousielaw38.ShiftBack': WHATEVER THE INPUT: true; the input reads as it did. -/
def shiftBackSpec : ChangeSpec := { name := "shiftBack", fn := fun _ => fun
  | [d1, d2, d3] => { results := [.lit (.bool true)], args := [d1, d2, d3] }
  | _ => none }
def shiftBackRow : OpenClaim := { program := "ytjjgnopebokfoaa", sum := "505ed432f40bce019d296821a514eed7b9b91a8565fd448001648e360b1f4ad2", func := "jalousie/jalousielaw38.ShiftBack", spec := "shiftBack", unfollowed := true, recurses := true, apart := false }
def ShiftBackSaid : Prop := shiftBackRow.holds Try.pinned (OpenSpec.ofChange shiftBackSpec)

/-- ITS FALSE NEIGHBOUR: 'it returns false'. Refute it at one input. -/
def shiftBackWrong : ChangeSpec := { name := "shiftBack", fn := fun _ => fun
  | [d1, d2, d3] => { results := [.lit (.bool false)], args := [d1, d2, d3] }
  | _ => none }
def ShiftBackWrongFalsely : Prop := shiftBackRow.holds Try.pinned (OpenSpec.ofChange shiftBackWrong)

/-- 'jalousielaw38.ShiftMeets': WHATEVER THE INPUT: true; the input reads as it did. -/
def shiftMeetsSpec : ChangeSpec := { name := "shiftMeets", fn := fun _ => fun
  | [d1, d2, d3] => { results := [.lit (.bool true)], args := [d1, d2, d3] }
  | _ => none }
def shiftMeetsRow : OpenClaim := { program := "ytjjgnopebokfoaa", sum := "505ed432f40bce019d296821a514eed7b9b91a8565fd448001648e360b1f4ad2", func := "jalousie/jalousielaw38.ShiftMeets", spec := "shiftMeets", unfollowed := true, recurses := true, apart := false }
def ShiftMeetsSaid : Prop := shiftMeetsRow.holds Try.pinned (OpenSpec.ofChange shiftMeetsSpec)

/-- ITS FALSE NEIGHBOUR: 'it returns false'. Refute it at one input. -/
def shiftMeetsWrong : ChangeSpec := { name := "shiftMeets", fn := fun _ => fun
  | [d1, d2, d3] => { results := [.lit (.bool false)], args := [d1, d2, d3] }
  | _ => none }
def ShiftMeetsWrongFalsely : Prop := shiftMeetsRow.holds Try.pinned (OpenSpec.ofChange shiftMeetsWrong)

/-- 'jalousielaw38.ShiftApplies': WHATEVER THE INPUT: true; the input reads as it did. -/
def shiftAppliesSpec : ChangeSpec := { name := "shiftApplies", fn := fun _ => fun
  | [d1, d2, d3] => { results := [.lit (.bool true)], args := [d1, d2, d3] }
  | _ => none }
def shiftAppliesRow : OpenClaim := { program := "ytjjgnopebokfoaa", sum := "505ed432f40bce019d296821a514eed7b9b91a8565fd448001648e360b1f4ad2", func := "jalousie/jalousielaw38.ShiftApplies", spec := "shiftApplies", unfollowed := true, recurses := true, apart := false }
def ShiftAppliesSaid : Prop := shiftAppliesRow.holds Try.pinned (OpenSpec.ofChange shiftAppliesSpec)

/-- ITS FALSE NEIGHBOUR: 'it returns false'. Refute it at one input. -/
def shiftAppliesWrong : ChangeSpec := { name := "shiftApplies", fn := fun _ => fun
  | [d1, d2, d3] => { results := [.lit (.bool false)], args := [d1, d2, d3] }
  | _ => none }
def ShiftAppliesWrongFalsely : Prop := shiftAppliesRow.holds Try.pinned (OpenSpec.ofChange shiftAppliesWrong)

/-- 'jalousielaw38.ShiftOf': WHATEVER THE INPUT: true; the input reads as it did. -/
def shiftOfSpec : ChangeSpec := { name := "shiftOf", fn := fun _ => fun
  | [d] => { results := [.lit (.bool true)], args := [d] }
  | _ => none }
def shiftOfRow : OpenClaim := { program := "ytjjgnopebokfoaa", sum := "505ed432f40bce019d296821a514eed7b9b91a8565fd448001648e360b1f4ad2", func := "jalousie/jalousielaw38.ShiftOf", spec := "shiftOf", unfollowed := true, recurses := true, apart := false }
def ShiftOfSaid : Prop := shiftOfRow.holds Try.pinned (OpenSpec.ofChange shiftOfSpec)

/-- ITS FALSE NEIGHBOUR: 'it returns false'. Refute it at one input. -/
def shiftOfWrong : ChangeSpec := { name := "shiftOf", fn := fun _ => fun
  | [d] => { results := [.lit (.bool false)], args := [d] }
  | _ => none }
def ShiftOfWrongFalsely : Prop := shiftOfRow.holds Try.pinned (OpenSpec.ofChange shiftOfWrong)

/- THE SECOND FORM. 'bulk': how many values and letters a reading holds, each counted each time it is reached (what is shared counts as often as it is met; a slice's spare places count too). A statement '..UptoSaid' is the law's where the arguments, and the package variables that the reading takes, are together of bulk at most 1048576: NARROWER than '..Said'. Prove '..Said' where nothing that the law and all that it calls make is longer than what came in: it says more and counts as full. Else prove '..UptoSaid'. A law counts once. -/
mutual
def uptoBulk {H : Type} : DataW H → Nat
  | .lit (.string bytes) => bytes.length + 1
  | .lit _ => 1
  | .nil => 1
  | .ptr d => uptoBulk d + 1
  | .slice elems spare => uptoBulkAll elems + uptoBulkAll spare + 1
  | .agg parts => uptoBulkAll parts + 1
  | .iface _ d => uptoBulk d + 1
  | .map entries => uptoBulkEntries entries + 1
  | .held _ => 1
def uptoBulkAll {H : Type} : List (DataW H) → Nat
  | [] => 0
  | d :: r => uptoBulk d + uptoBulkAll r
def uptoBulkEntries {H : Type} : List (Lit × DataW H) → Nat
  | [] => 0
  | x :: r => uptoBulkEntry x + uptoBulkEntries r
def uptoBulkEntry {H : Type} : Lit × DataW H → Nat
  | (.string bytes, d) => bytes.length + uptoBulk d + 1
  | (_, d) => uptoBulk d + 1
 end
def uptoSmall : (H : Type) → List (DataW H) → Bool := fun _ ds => decide (uptoBulkAll ds ≤ 1048576)
def OpenSpec.upto (s : _root_.Go.ChangeSpec) : _root_.Go.OpenSpec := { _root_.Go.OpenSpec.ofChange s with cond := some uptoSmall }

/-- 'jalousielaw38.ShiftBehind', WHERE WHAT IT READS IS OF BULK AT MOST 1048576: true; the input reads as it did. -/
def shiftBehindUptoRow : OpenClaim := { program := "ytjjgnopebokfoaa", sum := "505ed432f40bce019d296821a514eed7b9b91a8565fd448001648e360b1f4ad2", func := "jalousie/jalousielaw38.ShiftBehind", spec := "shiftBehind", unfollowed := true, recurses := true, apart := false, narrowed := true }
def ShiftBehindUptoSaid : Prop := shiftBehindUptoRow.holds Try.pinned (OpenSpec.upto shiftBehindSpec)

/-- 'jalousielaw38.ShiftBack', WHERE WHAT IT READS IS OF BULK AT MOST 1048576: true; the input reads as it did. -/
def shiftBackUptoRow : OpenClaim := { program := "ytjjgnopebokfoaa", sum := "505ed432f40bce019d296821a514eed7b9b91a8565fd448001648e360b1f4ad2", func := "jalousie/jalousielaw38.ShiftBack", spec := "shiftBack", unfollowed := true, recurses := true, apart := false, narrowed := true }
def ShiftBackUptoSaid : Prop := shiftBackUptoRow.holds Try.pinned (OpenSpec.upto shiftBackSpec)

/-- 'jalousielaw38.ShiftMeets', WHERE WHAT IT READS IS OF BULK AT MOST 1048576: true; the input reads as it did. -/
def shiftMeetsUptoRow : OpenClaim := { program := "ytjjgnopebokfoaa", sum := "505ed432f40bce019d296821a514eed7b9b91a8565fd448001648e360b1f4ad2", func := "jalousie/jalousielaw38.ShiftMeets", spec := "shiftMeets", unfollowed := true, recurses := true, apart := false, narrowed := true }
def ShiftMeetsUptoSaid : Prop := shiftMeetsUptoRow.holds Try.pinned (OpenSpec.upto shiftMeetsSpec)

/-- 'jalousielaw38.ShiftApplies', WHERE WHAT IT READS IS OF BULK AT MOST 1048576: true; the input reads as it did. -/
def shiftAppliesUptoRow : OpenClaim := { program := "ytjjgnopebokfoaa", sum := "505ed432f40bce019d296821a514eed7b9b91a8565fd448001648e360b1f4ad2", func := "jalousie/jalousielaw38.ShiftApplies", spec := "shiftApplies", unfollowed := true, recurses := true, apart := false, narrowed := true }
def ShiftAppliesUptoSaid : Prop := shiftAppliesUptoRow.holds Try.pinned (OpenSpec.upto shiftAppliesSpec)

/-- 'jalousielaw38.ShiftOf', WHERE WHAT IT READS IS OF BULK AT MOST 1048576: true; the input reads as it did. -/
def shiftOfUptoRow : OpenClaim := { program := "ytjjgnopebokfoaa", sum := "505ed432f40bce019d296821a514eed7b9b91a8565fd448001648e360b1f4ad2", func := "jalousie/jalousielaw38.ShiftOf", spec := "shiftOf", unfollowed := true, recurses := true, apart := false, narrowed := true }
def ShiftOfUptoSaid : Prop := shiftOfUptoRow.holds Try.pinned (OpenSpec.upto shiftOfSpec)

end Rows
end Go.Proofs.Ytjjgnopebokfoaa
