/-
  No cell of these rows narrows 'for every input' (looked for: loops, veiled, ifaces, maps, wideKeys, modest, calm, conditions, laid).
  DERIVED. THE GIVEN ROWS OF THIS SEAT. 4 by the template 'for every input the law returns true; each argument reads behind the call as it read before'; 0 by the template 'total and deterministic' (their statements: YtjajefphfhdfkaaTotals.lean).
  GIVEN WITH THE SEED: the statements are not yours to turn. If you find one false, say at which input.
  Laid BY PROGRAM, IN A SANDBOX (cutbox-rows.mjs): the forced cells as the released guide's own fill.sh prints them over the translation 273de157d10384d7… (all of the seat's roots in one cut). By AI agents, Wed Nov 11 2026. No macro, syntax, notation, axiom, sorry.
-/
import Derived.Test.YtjajefphfhdfkaaChecked
import GoSem.Claim
import GoSem.ClaimJoined
import GoSem.ClaimMapViews
import Derived.JoinedTies
import Derived.KernelRfl
namespace Go.Proofs.Ytjajefphfhdfkaa
/- THE CELL 'sum', in the pinned program and in every row, IS THE sha256 OF THE DUMP (.gsa) THAT YtjajefphfhdfkaaProg.lean LOADS. Nothing in Lean hashes anything: it is a label: what it is worth is what the hold of that sum in a sandbox is worth. -/
noncomputable def Try.pinned : Pinned := { name := "ytjajefphfhdfkaa", sum := "273de157d10384d7643f12eed46cc2ddd598e7a5746958fca14b0f68f181df47", checked := Try.checked }
namespace Rows
def none {H : Type} : Left H := { results := [], args := [] }

/-- 'jalousielaw29.SidesRows': WHATEVER THE INPUT: true; the input reads as it did. -/
def sidesRowsSpec : ChangeSpec := { name := "sidesRows", fn := fun _ => fun
  | [d] => { results := [.lit (.bool true)], args := [d] }
  | _ => none }
def sidesRowsRow : OpenClaim := { program := "ytjajefphfhdfkaa", sum := "273de157d10384d7643f12eed46cc2ddd598e7a5746958fca14b0f68f181df47", func := "jalousie/jalousielaw29.SidesRows", spec := "sidesRows", inPlace := ["internal/bytealg.IndexByteString"], apart := false }
def SidesRowsSaid : Prop := sidesRowsRow.holds Try.pinned (OpenSpec.ofChange sidesRowsSpec)

/-- ITS FALSE NEIGHBOUR: 'it returns false'. Refute it at one input. -/
def sidesRowsWrong : ChangeSpec := { name := "sidesRows", fn := fun _ => fun
  | [d] => { results := [.lit (.bool false)], args := [d] }
  | _ => none }
def SidesRowsWrongFalsely : Prop := sidesRowsRow.holds Try.pinned (OpenSpec.ofChange sidesRowsWrong)

/-- 'jalousielaw29.SidesFits': WHATEVER THE INPUT: true; the input reads as it did. -/
def sidesFitsSpec : ChangeSpec := { name := "sidesFits", fn := fun _ => fun
  | [d1, d2] => { results := [.lit (.bool true)], args := [d1, d2] }
  | _ => none }
def sidesFitsRow : OpenClaim := { program := "ytjajefphfhdfkaa", sum := "273de157d10384d7643f12eed46cc2ddd598e7a5746958fca14b0f68f181df47", func := "jalousie/jalousielaw29.SidesFits", spec := "sidesFits", inPlace := ["internal/bytealg.IndexByteString"], apart := false }
def SidesFitsSaid : Prop := sidesFitsRow.holds Try.pinned (OpenSpec.ofChange sidesFitsSpec)

/-- ITS FALSE NEIGHBOUR: 'it returns false'. Refute it at one input. -/
def sidesFitsWrong : ChangeSpec := { name := "sidesFits", fn := fun _ => fun
  | [d1, d2] => { results := [.lit (.bool false)], args := [d1, d2] }
  | _ => none }
def SidesFitsWrongFalsely : Prop := sidesFitsRow.holds Try.pinned (OpenSpec.ofChange sidesFitsWrong)

/-- 'jalousielaw29.SidesPrints': WHATEVER THE INPUT: true; the input reads as it did. -/
def sidesPrintsSpec : ChangeSpec := { name := "sidesPrints", fn := fun _ => fun
  | [d1, d2] => { results := [.lit (.bool true)], args := [d1, d2] }
  | _ => none }
def sidesPrintsRow : OpenClaim := { program := "ytjajefphfhdfkaa", sum := "273de157d10384d7643f12eed46cc2ddd598e7a5746958fca14b0f68f181df47", func := "jalousie/jalousielaw29.SidesPrints", spec := "sidesPrints", inPlace := ["internal/bytealg.IndexByteString"], apart := false }
def SidesPrintsSaid : Prop := sidesPrintsRow.holds Try.pinned (OpenSpec.ofChange sidesPrintsSpec)

/-- ITS FALSE NEIGHBOUR: 'it returns false'. Refute it at one input. -/
def sidesPrintsWrong : ChangeSpec := { name := "sidesPrints", fn := fun _ => fun
  | [d1, d2] => { results := [.lit (.bool false)], args := [d1, d2] }
  | _ => none }
def SidesPrintsWrongFalsely : Prop := sidesPrintsRow.holds Try.pinned (OpenSpec.ofChange sidesPrintsWrong)

/-- 'jalousielaw29.SidesBack': WHATEVER THE INPUT: true; the input reads as it did. -/
def sidesBackSpec : ChangeSpec := { name := "sidesBack", fn := fun _ => fun
  | [d1, d2] => { results := [.lit (.bool true)], args := [d1, d2] }
  | _ => none }
def sidesBackRow : OpenClaim := { program := "ytjajefphfhdfkaa", sum := "273de157d10384d7643f12eed46cc2ddd598e7a5746958fca14b0f68f181df47", func := "jalousie/jalousielaw29.SidesBack", spec := "sidesBack", inPlace := ["internal/bytealg.IndexByteString"], apart := false }
def SidesBackSaid : Prop := sidesBackRow.holds Try.pinned (OpenSpec.ofChange sidesBackSpec)

/-- ITS FALSE NEIGHBOUR: 'it returns false'. Refute it at one input. -/
def sidesBackWrong : ChangeSpec := { name := "sidesBack", fn := fun _ => fun
  | [d1, d2] => { results := [.lit (.bool false)], args := [d1, d2] }
  | _ => none }
def SidesBackWrongFalsely : Prop := sidesBackRow.holds Try.pinned (OpenSpec.ofChange sidesBackWrong)

/- THE SECOND FORM. 'bulk': how many values and letters a reading holds, each counted each time it is reached (what is shared counts as often as it is met; a slice's spare places count too). A statement '..UptoSaid' is the law's where the arguments, and the package variables that the reading takes, are together of bulk at most 1048576: NARROWER than '..Said'. Prove '..Said' where nothing that the law and all that it calls make is longer than what came in: it says more and counts as full. Else prove '..UptoSaid'. A law counts once. -/
mutual
def uptoBulk {H : Type} : DataW H → Nat
  | .lit (.string bytes) => bytes.length + 1
  | .lit _ => 1
  | .nil => 1
  | .ptr d => uptoBulk d + 1
  | .slice elems spare => uptoBulkAll elems + uptoBulkAll spare + 1
  | .agg parts => uptoBulkAll parts + 1
  | .iface _ d => uptoBulk d + 1
  | .map entries => uptoBulkEntries entries + 1
  | .held _ => 1
def uptoBulkAll {H : Type} : List (DataW H) → Nat
  | [] => 0
  | d :: r => uptoBulk d + uptoBulkAll r
def uptoBulkEntries {H : Type} : List (Lit × DataW H) → Nat
  | [] => 0
  | x :: r => uptoBulkEntry x + uptoBulkEntries r
def uptoBulkEntry {H : Type} : Lit × DataW H → Nat
  | (.string bytes, d) => bytes.length + uptoBulk d + 1
  | (_, d) => uptoBulk d + 1
 end
def uptoSmall : (H : Type) → List (DataW H) → Bool := fun _ ds => decide (uptoBulkAll ds ≤ 1048576)
def OpenSpec.upto (s : _root_.Go.ChangeSpec) : _root_.Go.OpenSpec := { _root_.Go.OpenSpec.ofChange s with cond := some uptoSmall }

/-- 'jalousielaw29.SidesRows', WHERE WHAT IT READS IS OF BULK AT MOST 1048576: true; the input reads as it did. -/
def sidesRowsUptoRow : OpenClaim := { program := "ytjajefphfhdfkaa", sum := "273de157d10384d7643f12eed46cc2ddd598e7a5746958fca14b0f68f181df47", func := "jalousie/jalousielaw29.SidesRows", spec := "sidesRows", inPlace := ["internal/bytealg.IndexByteString"], apart := false, narrowed := true }
def SidesRowsUptoSaid : Prop := sidesRowsUptoRow.holds Try.pinned (OpenSpec.upto sidesRowsSpec)

/-- 'jalousielaw29.SidesFits', WHERE WHAT IT READS IS OF BULK AT MOST 1048576: true; the input reads as it did. -/
def sidesFitsUptoRow : OpenClaim := { program := "ytjajefphfhdfkaa", sum := "273de157d10384d7643f12eed46cc2ddd598e7a5746958fca14b0f68f181df47", func := "jalousie/jalousielaw29.SidesFits", spec := "sidesFits", inPlace := ["internal/bytealg.IndexByteString"], apart := false, narrowed := true }
def SidesFitsUptoSaid : Prop := sidesFitsUptoRow.holds Try.pinned (OpenSpec.upto sidesFitsSpec)

/-- 'jalousielaw29.SidesPrints', WHERE WHAT IT READS IS OF BULK AT MOST 1048576: true; the input reads as it did. -/
def sidesPrintsUptoRow : OpenClaim := { program := "ytjajefphfhdfkaa", sum := "273de157d10384d7643f12eed46cc2ddd598e7a5746958fca14b0f68f181df47", func := "jalousie/jalousielaw29.SidesPrints", spec := "sidesPrints", inPlace := ["internal/bytealg.IndexByteString"], apart := false, narrowed := true }
def SidesPrintsUptoSaid : Prop := sidesPrintsUptoRow.holds Try.pinned (OpenSpec.upto sidesPrintsSpec)

/-- 'jalousielaw29.SidesBack', WHERE WHAT IT READS IS OF BULK AT MOST 1048576: true; the input reads as it did. -/
def sidesBackUptoRow : OpenClaim := { program := "ytjajefphfhdfkaa", sum := "273de157d10384d7643f12eed46cc2ddd598e7a5746958fca14b0f68f181df47", func := "jalousie/jalousielaw29.SidesBack", spec := "sidesBack", inPlace := ["internal/bytealg.IndexByteString"], apart := false, narrowed := true }
def SidesBackUptoSaid : Prop := sidesBackUptoRow.holds Try.pinned (OpenSpec.upto sidesBackSpec)

end Rows
end Go.Proofs.Ytjajefphfhdfkaa
