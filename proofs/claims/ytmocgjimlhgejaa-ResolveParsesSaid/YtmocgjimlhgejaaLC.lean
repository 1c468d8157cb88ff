/- What the arguments of this seat's laws read as. -/
import Derived.Test.YtmocgjimlhgejaaU1
import Derived.Test.YtmocgjimlhgejaaKBD
import Derived.Test.YtmocgjimlhgejaaKBC
import Derived.Test.YtmocgjimlhgejaaRows
namespace Go.Proofs.Ytmocgjimlhgejaa
open Go.PL Go.ChangeShapes Go.WideShapes Go.ChangeAt Go.RowKit
set_option maxRecDepth 100000
set_option linter.unusedSimpArgs false
set_option linter.unusedVariables false
theorem own : ownKnob Try.prog.godebug = none := by kernel_rfl
theorem laidOut : laidOutB Try.prog = true := by kernel_rfl
/-- What a row of such elements reads as. -/
theorem map_of {α : Type} {f : α → IV} : ∀ (xs : List IV), (∀ y ∈ xs, ∃ a, y = f a) → ∃ p : List α, xs = p.map f
  | [], _ => ⟨[], rfl⟩
  | x :: xs, h => by
    obtain ⟨a, rfl⟩ := h x (List.mem_cons_self ..)
    obtain ⟨p, rfl⟩ := map_of xs (fun y hy => h y (List.mem_cons_of_mem _ hy))
    exact ⟨a :: p, rfl⟩
theorem open_str : Opens Try.prog 9 (fun x => ∃ l : List UInt8, x = encS l) := by
  refine (Opens.str Try.underlying9).mono ?_
  rintro x ⟨s, _, rfl⟩
  exact ⟨s.data.toList, rfl⟩
theorem open_line : Opens Try.prog 38 (fun x => ∃ c : Ln, x = encL c) := by
  refine (Opens.struct Try.underlying38 (by kernel_rfl) (Xs := [_, _]) ⟨Opens.str Try.underlying9, Opens.bool Try.underlying4, trivial⟩).mono ?_
  rintro x ⟨xs, hxs, rfl⟩
  obtain ⟨x0, y0, rfl, ⟨s, _, rfl⟩, g0⟩ := hxs.cons
  obtain ⟨x1, y1, rfl, ⟨b, rfl⟩, g1⟩ := g0.cons
  obtain rfl := g1.nil
  exact ⟨⟨s.data.toList, b⟩, by simp [encL, encS, IV.cells]⟩
theorem open_lines : Opens Try.prog 22 (fun x => ∃ p : List Ln, x = .sl 2 (p.map encL)) := by
  refine (Opens.slice Try.underlying22 (sz := 2) (by kernel_rfl) open_line).mono ?_
  rintro x ⟨xs, hxs, rfl⟩
  obtain ⟨p, rfl⟩ := map_of (f := encL) xs hxs
  exact ⟨p, rfl⟩
end Go.Proofs.Ytmocgjimlhgejaa
