/- What the arguments of this seat's laws read as. -/
import Derived.Test.YtlpoajojkkfhhaaF9
import Derived.Test.YtlpoajojkkfhhaaKBC
import Derived.Test.YtlpoajojkkfhhaaRows
namespace Go.Proofs.Ytlpoajojkkfhhaa
open Go.PL Go.ChangeShapes Go.WideShapes Go.ChangeAt Go.RowKit
set_option maxRecDepth 100000
set_option linter.unusedSimpArgs false
set_option linter.unusedVariables false
theorem own : ownKnob Try.prog.godebug = none := by kernel_rfl
theorem laidOut : laidOutB Try.prog = true := by kernel_rfl
/-- What a row of pairs reads as. -/
theorem map_of {α : Type} {f : α → IV} : ∀ (xs : List IV), (∀ y ∈ xs, ∃ a, y = f a) → ∃ p : List α, xs = p.map f
  | [], _ => ⟨[], rfl⟩
  | x :: xs, h => by
    obtain ⟨a, rfl⟩ := h x (List.mem_cons_self ..)
    obtain ⟨p, rfl⟩ := map_of xs (fun y hy => h y (List.mem_cons_of_mem _ hy))
    exact ⟨a :: p, rfl⟩
theorem open_pairs : Opens Try.prog 22 (fun x => ∃ p : List (Int × Int), x = .sl 2 (p.map encP)) := by
  intro H enc W base sp held fuel cs y h
  obtain ⟨x, ⟨xs, hxs, rfl⟩, hx⟩ := (Opens.slice Try.underlying22 (sz := 2) (by kernel_rfl) (Opens.arr Try.underlying33 (by kernel_rfl) (Opens.int Try.underlying3))) H enc W base sp held fuel cs y h
  obtain ⟨p, rfl⟩ := map_of (f := encP) xs (fun y hy => by
    obtain ⟨zs, hl, hz, rfl⟩ := hxs y hy
    match zs, hl with
    | [z0, z1], _ =>
      obtain ⟨a, _, rfl⟩ := hz z0 (by simp)
      obtain ⟨b, _, rfl⟩ := hz z1 (by simp)
      exact ⟨(a, b), rfl⟩)
  exact ⟨_, ⟨p, rfl⟩, hx⟩
theorem i8_bounds {n : Int} (h : (Lit.int .i8 n).wf = true) : -128 ≤ n ∧ n ≤ 127 := by
  simp [Lit.wf, IntKind.min, IntKind.max, IntKind.signed, IntKind.bits] at h
  omega

theorem open_ints : Opens Try.prog 35 (fun x => ∃ p : List Int, x = .sl 1 (p.map encI)) := by
  intro H enc W base sp held fuel cs y h
  obtain ⟨x, ⟨xs, hxs, rfl⟩, hx⟩ := (Opens.slice Try.underlying35 (sz := 1) (by kernel_rfl) (Opens.int Try.underlying3)) H enc W base sp held fuel cs y h
  obtain ⟨p, rfl⟩ := map_of (f := encI) xs (fun y hy => by
    obtain ⟨n, _, rfl⟩ := hxs y hy
    exact ⟨n, rfl⟩)
  exact ⟨_, ⟨p, rfl⟩, hx⟩
end Go.Proofs.Ytlpoajojkkfhhaa
