/- What the arguments of this seat's laws read as. -/
import Derived.Test.YtjjgnopebokfoaaF1
import Derived.Test.YtjjgnopebokfoaaKBC
import Derived.Test.YtjjgnopebokfoaaRows
namespace Go.Proofs.Ytjjgnopebokfoaa
open Go.PL Go.ChangeShapes Go.WideShapes Go.ChangeAt Go.RowKit
set_option maxRecDepth 100000
set_option linter.unusedSimpArgs false
set_option linter.unusedVariables false
theorem own : ownKnob Try.prog.godebug = none := by kernel_rfl
theorem laidOut : laidOutB Try.prog = true := by kernel_rfl
/-- What a row of such elements reads as. -/
theorem map_of {α : Type} {f : α → IV} : ∀ (xs : List IV), (∀ y ∈ xs, ∃ a, y = f a) → ∃ p : List α, xs = p.map f
  | [], _ => ⟨[], rfl⟩
  | x :: xs, h => by
    obtain ⟨a, rfl⟩ := h x (List.mem_cons_self ..)
    obtain ⟨p, rfl⟩ := map_of xs (fun y hy => h y (List.mem_cons_of_mem _ hy))
    exact ⟨a :: p, rfl⟩
theorem open_line : Opens Try.prog 49 (fun x => ∃ c : Ln, x = encL c) := by
  refine (Opens.struct Try.underlying49 (by kernel_rfl) (Xs := [_, _]) ⟨Opens.str Try.underlying9, Opens.bool Try.underlying4, trivial⟩).mono ?_
  rintro x ⟨xs, hxs, rfl⟩
  obtain ⟨x0, y0, rfl, ⟨s, _, rfl⟩, g0⟩ := hxs.cons
  obtain ⟨x1, y1, rfl, ⟨b, rfl⟩, g1⟩ := g0.cons
  obtain rfl := g1.nil
  exact ⟨⟨s.data.toList, b⟩, by simp [encL, IV.cells]⟩
theorem open_lines : Opens Try.prog 32 (fun x => ∃ p : List Ln, x = .sl 2 (p.map encL)) := by
  refine (Opens.slice Try.underlying32 (sz := 2) (by kernel_rfl) open_line).mono ?_
  rintro x ⟨xs, hxs, rfl⟩
  obtain ⟨p, rfl⟩ := map_of (f := encL) xs hxs
  exact ⟨p, rfl⟩
theorem open_sub : Opens Try.prog 47 (fun x => ∃ c : Sb, x = encS c) := by
  refine (Opens.struct Try.underlying47 (by kernel_rfl) (Xs := [_, _, _]) ⟨Opens.int Try.underlying3, open_lines, open_lines, trivial⟩).mono ?_
  rintro x ⟨xs, hxs, rfl⟩
  obtain ⟨x0, y0, rfl, ⟨n, _, rfl⟩, g0⟩ := hxs.cons
  obtain ⟨x1, y1, rfl, ⟨o, rfl⟩, g1⟩ := g0.cons
  obtain ⟨x2, y2, rfl, ⟨i, rfl⟩, g2⟩ := g1.cons
  obtain rfl := g2.nil
  exact ⟨⟨n, o, i⟩, by simp [encS, IV.cells]⟩
theorem open_subs : Opens Try.prog 22 (fun x => ∃ p : List Sb, x = .sl 3 (p.map encS)) := by
  refine (Opens.slice Try.underlying22 (sz := 3) (by kernel_rfl) open_sub).mono ?_
  rintro x ⟨xs, hxs, rfl⟩
  obtain ⟨p, rfl⟩ := map_of (f := encS) xs hxs
  exact ⟨p, rfl⟩
end Go.Proofs.Ytjjgnopebokfoaa
