/- What four small numbers in one piece read as. -/
import Derived.Test.YtlpoajojkkfhhaaF15
import Derived.Test.YtlpoajojkkfhhaaLC
namespace Go.Proofs.Ytlpoajojkkfhhaa
open Go.PL Go.ChangeShapes Go.WideShapes Go.ChangeAt Go.RowKit
theorem open_four8 : Opens Try.prog 40 (fun x => ∃ a : Int × Int × Int × Int, ((-128 ≤ a.1 ∧ a.1 ≤ 127) ∧ (-128 ≤ a.2.1 ∧ a.2.1 ≤ 127) ∧ (-128 ≤ a.2.2.1 ∧ a.2.2.1 ≤ 127) ∧ (-128 ≤ a.2.2.2 ∧ a.2.2.2 ≤ 127)) ∧ x = enc8 a.1 a.2.1 a.2.2.1 a.2.2.2) := by
  intro H enc W base sp held fuel cs y h
  obtain ⟨x, ⟨zs, hl, hz, rfl⟩, hx⟩ := (Opens.arr Try.underlying40 (by kernel_rfl) (Opens.int Try.underlying23)) H enc W base sp held fuel cs y h
  match zs, hl with
  | [z0, z1, z2, z3], _ =>
    obtain ⟨a, wa, rfl⟩ := hz z0 (by simp)
    obtain ⟨b, wb, rfl⟩ := hz z1 (by simp)
    obtain ⟨c, wc, rfl⟩ := hz z2 (by simp)
    obtain ⟨d, wd, rfl⟩ := hz z3 (by simp)
    exact ⟨_, ⟨(a, b, c, d), ⟨i8_bounds wa, i8_bounds wb, i8_bounds wc, i8_bounds wd⟩, rfl⟩, hx⟩
end Go.Proofs.Ytlpoajojkkfhhaa
