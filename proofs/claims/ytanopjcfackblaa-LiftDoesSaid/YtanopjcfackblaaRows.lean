/-
  No cell of these rows narrows 'for every input' (looked for: loops, veiled, ifaces, maps, wideKeys, modest, calm, conditions, laid).
  DERIVED. THE GIVEN ROWS OF THIS SEAT. 5 by the template 'for every input the law returns true; each argument reads behind the call as it read before'; 0 by the template 'total and deterministic' (their statements: YtanopjcfackblaaTotals.lean).
  GIVEN WITH THE SEED: the statements are not yours to turn. If you find one false, say at which input.
  Laid BY PROGRAM, IN A SANDBOX (cutbox-rows.mjs): the forced cells as the released guide's own fill.sh prints them over the translation 4b59388a85c38459… (all of the seat's roots in one cut). By AI agents, Wed Nov 11 2026. No macro, syntax, notation, axiom, sorry.
-/
import Derived.Test.YtanopjcfackblaaChecked
import GoSem.Claim
import GoSem.ClaimJoined
import GoSem.ClaimMapViews
import Derived.JoinedTies
import Derived.KernelRfl
namespace Go.Proofs.Ytanopjcfackblaa
/- THE CELL 'sum', in the pinned program and in every row, IS THE sha256 OF THE DUMP (.gsa) THAT YtanopjcfackblaaProg.lean LOADS. Nothing in Lean hashes anything: it is a label: what it is worth is what the hold of that sum in a sandbox is worth. -/
noncomputable def Try.pinned : Pinned := { name := "ytanopjcfackblaa", sum := "4b59388a85c3845938d655e3ebedea9becb40273b05acc86b2bd82e306fa1ce7", checked := Try.checked }
namespace Rows
def none {H : Type} : Left H := { results := [], args := [] }

/-- 'jalousielaw18.LiftDoes': WHATEVER THE INPUT: true; the input reads as it did. -/
def liftDoesSpec : ChangeSpec := { name := "liftDoes", fn := fun _ => fun
  | [d1, d2, d3, d4, d5] => { results := [.lit (.bool true)], args := [d1, d2, d3, d4, d5] }
  | _ => none }
def liftDoesRow : OpenClaim := { program := "ytanopjcfackblaa", sum := "4b59388a85c3845938d655e3ebedea9becb40273b05acc86b2bd82e306fa1ce7", func := "jalousie/jalousielaw18.LiftDoes", spec := "liftDoes", unfollowed := true, recurses := true, apart := false }
def LiftDoesSaid : Prop := liftDoesRow.holds Try.pinned (OpenSpec.ofChange liftDoesSpec)

/-- ITS FALSE NEIGHBOUR: 'it returns false'. Refute it at one input. -/
def liftDoesWrong : ChangeSpec := { name := "liftDoes", fn := fun _ => fun
  | [d1, d2, d3, d4, d5] => { results := [.lit (.bool false)], args := [d1, d2, d3, d4, d5] }
  | _ => none }
def LiftDoesWrongFalsely : Prop := liftDoesRow.holds Try.pinned (OpenSpec.ofChange liftDoesWrong)

/-- 'jalousielaw18.LiftShows': WHATEVER THE INPUT: true; the input reads as it did. -/
def liftShowsSpec : ChangeSpec := { name := "liftShows", fn := fun _ => fun
  | [d1, d2, d3, d4] => { results := [.lit (.bool true)], args := [d1, d2, d3, d4] }
  | _ => none }
def liftShowsRow : OpenClaim := { program := "ytanopjcfackblaa", sum := "4b59388a85c3845938d655e3ebedea9becb40273b05acc86b2bd82e306fa1ce7", func := "jalousie/jalousielaw18.LiftShows", spec := "liftShows", unfollowed := true, recurses := true, apart := false }
def LiftShowsSaid : Prop := liftShowsRow.holds Try.pinned (OpenSpec.ofChange liftShowsSpec)

/-- ITS FALSE NEIGHBOUR: 'it returns false'. Refute it at one input. -/
def liftShowsWrong : ChangeSpec := { name := "liftShows", fn := fun _ => fun
  | [d1, d2, d3, d4] => { results := [.lit (.bool false)], args := [d1, d2, d3, d4] }
  | _ => none }
def LiftShowsWrongFalsely : Prop := liftShowsRow.holds Try.pinned (OpenSpec.ofChange liftShowsWrong)

/-- 'jalousielaw18.LiftBlind': WHATEVER THE INPUT: true; the input reads as it did. -/
def liftBlindSpec : ChangeSpec := { name := "liftBlind", fn := fun _ => fun
  | [d1, d2, d3, d4, d5] => { results := [.lit (.bool true)], args := [d1, d2, d3, d4, d5] }
  | _ => none }
def liftBlindRow : OpenClaim := { program := "ytanopjcfackblaa", sum := "4b59388a85c3845938d655e3ebedea9becb40273b05acc86b2bd82e306fa1ce7", func := "jalousie/jalousielaw18.LiftBlind", spec := "liftBlind", unfollowed := true, recurses := true, apart := false }
def LiftBlindSaid : Prop := liftBlindRow.holds Try.pinned (OpenSpec.ofChange liftBlindSpec)

/-- ITS FALSE NEIGHBOUR: 'it returns false'. Refute it at one input. -/
def liftBlindWrong : ChangeSpec := { name := "liftBlind", fn := fun _ => fun
  | [d1, d2, d3, d4, d5] => { results := [.lit (.bool false)], args := [d1, d2, d3, d4, d5] }
  | _ => none }
def LiftBlindWrongFalsely : Prop := liftBlindRow.holds Try.pinned (OpenSpec.ofChange liftBlindWrong)

/-- 'jalousielaw18.LiftStays': WHATEVER THE INPUT: true; the input reads as it did. -/
def liftStaysSpec : ChangeSpec := { name := "liftStays", fn := fun _ => fun
  | [d1, d2, d3, d4, d5] => { results := [.lit (.bool true)], args := [d1, d2, d3, d4, d5] }
  | _ => none }
def liftStaysRow : OpenClaim := { program := "ytanopjcfackblaa", sum := "4b59388a85c3845938d655e3ebedea9becb40273b05acc86b2bd82e306fa1ce7", func := "jalousie/jalousielaw18.LiftStays", spec := "liftStays", unfollowed := true, recurses := true, apart := false }
def LiftStaysSaid : Prop := liftStaysRow.holds Try.pinned (OpenSpec.ofChange liftStaysSpec)

/-- ITS FALSE NEIGHBOUR: 'it returns false'. Refute it at one input. -/
def liftStaysWrong : ChangeSpec := { name := "liftStays", fn := fun _ => fun
  | [d1, d2, d3, d4, d5] => { results := [.lit (.bool false)], args := [d1, d2, d3, d4, d5] }
  | _ => none }
def LiftStaysWrongFalsely : Prop := liftStaysRow.holds Try.pinned (OpenSpec.ofChange liftStaysWrong)

/-- 'jalousielaw18.LiftIDs': WHATEVER THE INPUT: true; the input reads as it did. -/
def liftIDsSpec : ChangeSpec := { name := "liftIDs", fn := fun _ => fun
  | [d1, d2, d3, d4] => { results := [.lit (.bool true)], args := [d1, d2, d3, d4] }
  | _ => none }
def liftIDsRow : OpenClaim := { program := "ytanopjcfackblaa", sum := "4b59388a85c3845938d655e3ebedea9becb40273b05acc86b2bd82e306fa1ce7", func := "jalousie/jalousielaw18.LiftIDs", spec := "liftIDs", unfollowed := true, recurses := true, apart := false }
def LiftIDsSaid : Prop := liftIDsRow.holds Try.pinned (OpenSpec.ofChange liftIDsSpec)

/-- ITS FALSE NEIGHBOUR: 'it returns false'. Refute it at one input. -/
def liftIDsWrong : ChangeSpec := { name := "liftIDs", fn := fun _ => fun
  | [d1, d2, d3, d4] => { results := [.lit (.bool false)], args := [d1, d2, d3, d4] }
  | _ => none }
def LiftIDsWrongFalsely : Prop := liftIDsRow.holds Try.pinned (OpenSpec.ofChange liftIDsWrong)

/- THE SECOND FORM. 'bulk': how many values and letters a reading holds, each counted each time it is reached (what is shared counts as often as it is met; a slice's spare places count too). A statement '..UptoSaid' is the law's where the arguments, and the package variables that the reading takes, are together of bulk at most 1048576: NARROWER than '..Said'. Prove '..Said' where nothing that the law and all that it calls make is longer than what came in: it says more and counts as full. Else prove '..UptoSaid'. A law counts once. -/
mutual
def uptoBulk {H : Type} : DataW H → Nat
  | .lit (.string bytes) => bytes.length + 1
  | .lit _ => 1
  | .nil => 1
  | .ptr d => uptoBulk d + 1
  | .slice elems spare => uptoBulkAll elems + uptoBulkAll spare + 1
  | .agg parts => uptoBulkAll parts + 1
  | .iface _ d => uptoBulk d + 1
  | .map entries => uptoBulkEntries entries + 1
  | .held _ => 1
def uptoBulkAll {H : Type} : List (DataW H) → Nat
  | [] => 0
  | d :: r => uptoBulk d + uptoBulkAll r
def uptoBulkEntries {H : Type} : List (Lit × DataW H) → Nat
  | [] => 0
  | x :: r => uptoBulkEntry x + uptoBulkEntries r
def uptoBulkEntry {H : Type} : Lit × DataW H → Nat
  | (.string bytes, d) => bytes.length + uptoBulk d + 1
  | (_, d) => uptoBulk d + 1
 end
def uptoSmall : (H : Type) → List (DataW H) → Bool := fun _ ds => decide (uptoBulkAll ds ≤ 1048576)
def OpenSpec.upto (s : _root_.Go.ChangeSpec) : _root_.Go.OpenSpec := { _root_.Go.OpenSpec.ofChange s with cond := some uptoSmall }

/-- 'jalousielaw18.LiftDoes', WHERE WHAT IT READS IS OF BULK AT MOST 1048576: true; the input reads as it did. -/
def liftDoesUptoRow : OpenClaim := { program := "ytanopjcfackblaa", sum := "4b59388a85c3845938d655e3ebedea9becb40273b05acc86b2bd82e306fa1ce7", func := "jalousie/jalousielaw18.LiftDoes", spec := "liftDoes", unfollowed := true, recurses := true, apart := false, narrowed := true }
def LiftDoesUptoSaid : Prop := liftDoesUptoRow.holds Try.pinned (OpenSpec.upto liftDoesSpec)

/-- 'jalousielaw18.LiftShows', WHERE WHAT IT READS IS OF BULK AT MOST 1048576: true; the input reads as it did. -/
def liftShowsUptoRow : OpenClaim := { program := "ytanopjcfackblaa", sum := "4b59388a85c3845938d655e3ebedea9becb40273b05acc86b2bd82e306fa1ce7", func := "jalousie/jalousielaw18.LiftShows", spec := "liftShows", unfollowed := true, recurses := true, apart := false, narrowed := true }
def LiftShowsUptoSaid : Prop := liftShowsUptoRow.holds Try.pinned (OpenSpec.upto liftShowsSpec)

/-- 'jalousielaw18.LiftBlind', WHERE WHAT IT READS IS OF BULK AT MOST 1048576: true; the input reads as it did. -/
def liftBlindUptoRow : OpenClaim := { program := "ytanopjcfackblaa", sum := "4b59388a85c3845938d655e3ebedea9becb40273b05acc86b2bd82e306fa1ce7", func := "jalousie/jalousielaw18.LiftBlind", spec := "liftBlind", unfollowed := true, recurses := true, apart := false, narrowed := true }
def LiftBlindUptoSaid : Prop := liftBlindUptoRow.holds Try.pinned (OpenSpec.upto liftBlindSpec)

/-- 'jalousielaw18.LiftStays', WHERE WHAT IT READS IS OF BULK AT MOST 1048576: true; the input reads as it did. -/
def liftStaysUptoRow : OpenClaim := { program := "ytanopjcfackblaa", sum := "4b59388a85c3845938d655e3ebedea9becb40273b05acc86b2bd82e306fa1ce7", func := "jalousie/jalousielaw18.LiftStays", spec := "liftStays", unfollowed := true, recurses := true, apart := false, narrowed := true }
def LiftStaysUptoSaid : Prop := liftStaysUptoRow.holds Try.pinned (OpenSpec.upto liftStaysSpec)

/-- 'jalousielaw18.LiftIDs', WHERE WHAT IT READS IS OF BULK AT MOST 1048576: true; the input reads as it did. -/
def liftIDsUptoRow : OpenClaim := { program := "ytanopjcfackblaa", sum := "4b59388a85c3845938d655e3ebedea9becb40273b05acc86b2bd82e306fa1ce7", func := "jalousie/jalousielaw18.LiftIDs", spec := "liftIDs", unfollowed := true, recurses := true, apart := false, narrowed := true }
def LiftIDsUptoSaid : Prop := liftIDsUptoRow.holds Try.pinned (OpenSpec.upto liftIDsSpec)

end Rows
end Go.Proofs.Ytanopjcfackblaa
