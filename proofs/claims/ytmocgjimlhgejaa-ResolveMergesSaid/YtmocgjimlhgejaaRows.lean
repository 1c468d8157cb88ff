/-
  No cell of these rows narrows 'for every input' (looked for: loops, veiled, ifaces, maps, wideKeys, modest, calm, conditions, laid).
  DERIVED. THE GIVEN ROWS OF THIS SEAT. 4 by the template 'for every input the law returns true; each argument reads behind the call as it read before'; 0 by the template 'total and deterministic' (their statements: YtmocgjimlhgejaaTotals.lean).
  GIVEN WITH THE SEED: the statements are not yours to turn. If you find one false, say at which input.
  Laid BY PROGRAM, IN A SANDBOX (cutbox-rows.mjs): the forced cells as the released guide's own fill.sh prints them over the translation bc7c320976056aa5… (all of the seat's roots in one cut). By AI agents, Wed Nov 11 2026. No macro, syntax, notation, axiom, sorry.
-/
import Derived.Test.YtmocgjimlhgejaaChecked
import GoSem.Claim
import GoSem.ClaimJoined
import GoSem.ClaimMapViews
import Derived.JoinedTies
import Derived.KernelRfl
namespace Go.Proofs.Ytmocgjimlhgejaa
/- THE CELL 'sum', in the pinned program and in every row, IS THE sha256 OF THE DUMP (.gsa) THAT YtmocgjimlhgejaaProg.lean LOADS. Nothing in Lean hashes anything: it is a label: what it is worth is what the hold of that sum in a sandbox is worth. -/
noncomputable def Try.pinned : Pinned := { name := "ytmocgjimlhgejaa", sum := "bc7c320976056aa5a62af43a8704998902a34d6555eb00150d82fc780b8299e9", checked := Try.checked }
namespace Rows
def none {H : Type} : Left H := { results := [], args := [] }

/-- 'jalousielaw30.ResolveParses': WHATEVER THE INPUT: true; the input reads as it did. -/
def resolveParsesSpec : ChangeSpec := { name := "resolveParses", fn := fun _ => fun
  | [d] => { results := [.lit (.bool true)], args := [d] }
  | _ => none }
def resolveParsesRow : OpenClaim := { program := "ytmocgjimlhgejaa", sum := "bc7c320976056aa5a62af43a8704998902a34d6555eb00150d82fc780b8299e9", func := "jalousie/jalousielaw30.ResolveParses", spec := "resolveParses", unfollowed := true, recurses := true, apart := false }
def ResolveParsesSaid : Prop := resolveParsesRow.holds Try.pinned (OpenSpec.ofChange resolveParsesSpec)

/-- ITS FALSE NEIGHBOUR: 'it returns false'. Refute it at one input. -/
def resolveParsesWrong : ChangeSpec := { name := "resolveParses", fn := fun _ => fun
  | [d] => { results := [.lit (.bool false)], args := [d] }
  | _ => none }
def ResolveParsesWrongFalsely : Prop := resolveParsesRow.holds Try.pinned (OpenSpec.ofChange resolveParsesWrong)

/-- 'jalousielaw30.ResolveSettles': WHATEVER THE INPUT: true; the input reads as it did. -/
def resolveSettlesSpec : ChangeSpec := { name := "resolveSettles", fn := fun _ => fun
  | [d1, d2] => { results := [.lit (.bool true)], args := [d1, d2] }
  | _ => none }
def resolveSettlesRow : OpenClaim := { program := "ytmocgjimlhgejaa", sum := "bc7c320976056aa5a62af43a8704998902a34d6555eb00150d82fc780b8299e9", func := "jalousie/jalousielaw30.ResolveSettles", spec := "resolveSettles", unfollowed := true, recurses := true, apart := false }
def ResolveSettlesSaid : Prop := resolveSettlesRow.holds Try.pinned (OpenSpec.ofChange resolveSettlesSpec)

/-- ITS FALSE NEIGHBOUR: 'it returns false'. Refute it at one input. -/
def resolveSettlesWrong : ChangeSpec := { name := "resolveSettles", fn := fun _ => fun
  | [d1, d2] => { results := [.lit (.bool false)], args := [d1, d2] }
  | _ => none }
def ResolveSettlesWrongFalsely : Prop := resolveSettlesRow.holds Try.pinned (OpenSpec.ofChange resolveSettlesWrong)

/-- 'jalousielaw30.ResolveBack': WHATEVER THE INPUT: true; the input reads as it did. -/
def resolveBackSpec : ChangeSpec := { name := "resolveBack", fn := fun _ => fun
  | [d] => { results := [.lit (.bool true)], args := [d] }
  | _ => none }
def resolveBackRow : OpenClaim := { program := "ytmocgjimlhgejaa", sum := "bc7c320976056aa5a62af43a8704998902a34d6555eb00150d82fc780b8299e9", func := "jalousie/jalousielaw30.ResolveBack", spec := "resolveBack", unfollowed := true, recurses := true, apart := false }
def ResolveBackSaid : Prop := resolveBackRow.holds Try.pinned (OpenSpec.ofChange resolveBackSpec)

/-- ITS FALSE NEIGHBOUR: 'it returns false'. Refute it at one input. -/
def resolveBackWrong : ChangeSpec := { name := "resolveBack", fn := fun _ => fun
  | [d] => { results := [.lit (.bool false)], args := [d] }
  | _ => none }
def ResolveBackWrongFalsely : Prop := resolveBackRow.holds Try.pinned (OpenSpec.ofChange resolveBackWrong)

/-- 'jalousielaw30.ResolveMerges': WHATEVER THE INPUT: true; the input reads as it did. -/
def resolveMergesSpec : ChangeSpec := { name := "resolveMerges", fn := fun _ => fun
  | [d1, d2, d3, d4] => { results := [.lit (.bool true)], args := [d1, d2, d3, d4] }
  | _ => none }
def resolveMergesRow : OpenClaim := { program := "ytmocgjimlhgejaa", sum := "bc7c320976056aa5a62af43a8704998902a34d6555eb00150d82fc780b8299e9", func := "jalousie/jalousielaw30.ResolveMerges", spec := "resolveMerges", unfollowed := true, recurses := true, apart := false }
def ResolveMergesSaid : Prop := resolveMergesRow.holds Try.pinned (OpenSpec.ofChange resolveMergesSpec)

/-- ITS FALSE NEIGHBOUR: 'it returns false'. Refute it at one input. -/
def resolveMergesWrong : ChangeSpec := { name := "resolveMerges", fn := fun _ => fun
  | [d1, d2, d3, d4] => { results := [.lit (.bool false)], args := [d1, d2, d3, d4] }
  | _ => none }
def ResolveMergesWrongFalsely : Prop := resolveMergesRow.holds Try.pinned (OpenSpec.ofChange resolveMergesWrong)

/- THE SECOND FORM. 'bulk': how many values and letters a reading holds, each counted each time it is reached (what is shared counts as often as it is met; a slice's spare places count too). A statement '..UptoSaid' is the law's where the arguments, and the package variables that the reading takes, are together of bulk at most 1048576: NARROWER than '..Said'. Prove '..Said' where nothing that the law and all that it calls make is longer than what came in: it says more and counts as full. Else prove '..UptoSaid'. A law counts once. -/
mutual
def uptoBulk {H : Type} : DataW H → Nat
  | .lit (.string bytes) => bytes.length + 1
  | .lit _ => 1
  | .nil => 1
  | .ptr d => uptoBulk d + 1
  | .slice elems spare => uptoBulkAll elems + uptoBulkAll spare + 1
  | .agg parts => uptoBulkAll parts + 1
  | .iface _ d => uptoBulk d + 1
  | .map entries => uptoBulkEntries entries + 1
  | .held _ => 1
def uptoBulkAll {H : Type} : List (DataW H) → Nat
  | [] => 0
  | d :: r => uptoBulk d + uptoBulkAll r
def uptoBulkEntries {H : Type} : List (Lit × DataW H) → Nat
  | [] => 0
  | x :: r => uptoBulkEntry x + uptoBulkEntries r
def uptoBulkEntry {H : Type} : Lit × DataW H → Nat
  | (.string bytes, d) => bytes.length + uptoBulk d + 1
  | (_, d) => uptoBulk d + 1
 end
def uptoSmall : (H : Type) → List (DataW H) → Bool := fun _ ds => decide (uptoBulkAll ds ≤ 1048576)
def OpenSpec.upto (s : _root_.Go.ChangeSpec) : _root_.Go.OpenSpec := { _root_.Go.OpenSpec.ofChange s with cond := some uptoSmall }

/-- 'jalousielaw30.ResolveParses', WHERE WHAT IT READS IS OF BULK AT MOST 1048576: true; the input reads as it did. -/
def resolveParsesUptoRow : OpenClaim := { program := "ytmocgjimlhgejaa", sum := "bc7c320976056aa5a62af43a8704998902a34d6555eb00150d82fc780b8299e9", func := "jalousie/jalousielaw30.ResolveParses", spec := "resolveParses", unfollowed := true, recurses := true, apart := false, narrowed := true }
def ResolveParsesUptoSaid : Prop := resolveParsesUptoRow.holds Try.pinned (OpenSpec.upto resolveParsesSpec)

/-- 'jalousielaw30.ResolveSettles', WHERE WHAT IT READS IS OF BULK AT MOST 1048576: true; the input reads as it did. -/
def resolveSettlesUptoRow : OpenClaim := { program := "ytmocgjimlhgejaa", sum := "bc7c320976056aa5a62af43a8704998902a34d6555eb00150d82fc780b8299e9", func := "jalousie/jalousielaw30.ResolveSettles", spec := "resolveSettles", unfollowed := true, recurses := true, apart := false, narrowed := true }
def ResolveSettlesUptoSaid : Prop := resolveSettlesUptoRow.holds Try.pinned (OpenSpec.upto resolveSettlesSpec)

/-- 'jalousielaw30.ResolveBack', WHERE WHAT IT READS IS OF BULK AT MOST 1048576: true; the input reads as it did. -/
def resolveBackUptoRow : OpenClaim := { program := "ytmocgjimlhgejaa", sum := "bc7c320976056aa5a62af43a8704998902a34d6555eb00150d82fc780b8299e9", func := "jalousie/jalousielaw30.ResolveBack", spec := "resolveBack", unfollowed := true, recurses := true, apart := false, narrowed := true }
def ResolveBackUptoSaid : Prop := resolveBackUptoRow.holds Try.pinned (OpenSpec.upto resolveBackSpec)

/-- 'jalousielaw30.ResolveMerges', WHERE WHAT IT READS IS OF BULK AT MOST 1048576: true; the input reads as it did. -/
def resolveMergesUptoRow : OpenClaim := { program := "ytmocgjimlhgejaa", sum := "bc7c320976056aa5a62af43a8704998902a34d6555eb00150d82fc780b8299e9", func := "jalousie/jalousielaw30.ResolveMerges", spec := "resolveMerges", unfollowed := true, recurses := true, apart := false, narrowed := true }
def ResolveMergesUptoSaid : Prop := resolveMergesUptoRow.holds Try.pinned (OpenSpec.upto resolveMergesSpec)

end Rows
end Go.Proofs.Ytmocgjimlhgejaa
