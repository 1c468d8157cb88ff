/- What the arguments of this seat's laws read as. -/
import Derived.Test.YtanopjcfackblaaE1
import Derived.Test.YtanopjcfackblaaKBC
import Derived.Test.YtanopjcfackblaaRows
namespace Go.Proofs.Ytanopjcfackblaa
open Go.PL Go.ChangeShapes Go.WideShapes Go.ChangeAt Go.RowKit
set_option maxRecDepth 100000
set_option linter.unusedSimpArgs false
set_option linter.unusedVariables false
theorem own : ownKnob Try.prog.godebug = none := by kernel_rfl
theorem laidOut : laidOutB Try.prog = true := by kernel_rfl
/-- What a row of such elements reads as. -/
theorem map_of {α : Type} {f : α → IV} : ∀ (xs : List IV), (∀ y ∈ xs, ∃ a, y = f a) → ∃ p : List α, xs = p.map f
  | [], _ => ⟨[], rfl⟩
  | x :: xs, h => by
    obtain ⟨a, rfl⟩ := h x (List.mem_cons_self ..)
    obtain ⟨p, rfl⟩ := map_of xs (fun y hy => h y (List.mem_cons_of_mem _ hy))
    exact ⟨a :: p, rfl⟩
theorem open_line : Opens Try.prog 39 (fun x => ∃ c : Ln, x = encL c) := by
  refine (Opens.struct Try.underlying39 (by kernel_rfl) (Xs := [_, _]) ⟨Opens.str Try.underlying9, Opens.bool Try.underlying4, trivial⟩).mono ?_
  rintro x ⟨xs, hxs, rfl⟩
  obtain ⟨x0, y0, rfl, ⟨s, _, rfl⟩, g0⟩ := hxs.cons
  obtain ⟨x1, y1, rfl, ⟨b, rfl⟩, g1⟩ := g0.cons
  obtain rfl := g1.nil
  exact ⟨⟨s.data.toList, b⟩, by simp [encL, IV.cells]⟩
theorem open_label : Opens Try.prog 29 (fun x => ∃ c : Lb, x = encLb c) := by
  refine (Opens.struct Try.underlying29 (by kernel_rfl) (Xs := [_, _]) ⟨Opens.int Try.underlying3, Opens.int Try.underlying27, trivial⟩).mono ?_
  rintro x ⟨xs, hxs, rfl⟩
  obtain ⟨x0, y0, rfl, ⟨n, _, rfl⟩, g0⟩ := hxs.cons
  obtain ⟨x1, y1, rfl, ⟨c, _, rfl⟩, g1⟩ := g0.cons
  obtain rfl := g1.nil
  exact ⟨⟨n, c⟩, by simp [encLb, IV.cells]⟩
theorem open_item : Opens Try.prog 41 (fun x => ∃ c : It, x = encIt c) := by
  refine (Opens.struct Try.underlying41 (by kernel_rfl) (Xs := [_, _, _, _]) ⟨Opens.int Try.underlying3, open_label, Opens.bool Try.underlying4, open_line, trivial⟩).mono ?_
  rintro x ⟨xs, hxs, rfl⟩
  obtain ⟨x0, y0, rfl, ⟨n, _, rfl⟩, g0⟩ := hxs.cons
  obtain ⟨x1, y1, rfl, ⟨c, rfl⟩, g1⟩ := g0.cons
  obtain ⟨x2, y2, rfl, ⟨b, rfl⟩, g2⟩ := g1.cons
  obtain ⟨x3, y3, rfl, ⟨t, rfl⟩, g3⟩ := g2.cons
  obtain rfl := g3.nil
  exact ⟨⟨n, c, b, t⟩, by simp [encIt, encLb, encL, IV.cells]⟩
theorem open_items : Opens Try.prog 22 (fun x => ∃ p : List It, x = .sl 6 (p.map encIt)) := by
  refine (Opens.slice Try.underlying22 (sz := 6) (by kernel_rfl) open_item).mono ?_
  rintro x ⟨xs, hxs, rfl⟩
  obtain ⟨p, rfl⟩ := map_of (f := encIt) xs hxs
  exact ⟨p, rfl⟩
theorem open_made : Opens Try.prog 46 (fun x => ∃ c : Md, x = encMd c) := by
  refine (Opens.struct Try.underlying46 (by kernel_rfl) (Xs := [_, _, _]) ⟨Opens.bool Try.underlying4, Opens.int Try.underlying3, open_line, trivial⟩).mono ?_
  rintro x ⟨xs, hxs, rfl⟩
  obtain ⟨x0, y0, rfl, ⟨b, rfl⟩, g0⟩ := hxs.cons
  obtain ⟨x1, y1, rfl, ⟨n, _, rfl⟩, g1⟩ := g0.cons
  obtain ⟨x2, y2, rfl, ⟨t, rfl⟩, g2⟩ := g1.cons
  obtain rfl := g2.nil
  exact ⟨⟨b, n, t⟩, by simp [encMd, encL, IV.cells]⟩
theorem open_mades : Opens Try.prog 30 (fun x => ∃ p : List Md, x = .sl 4 (p.map encMd)) := by
  refine (Opens.slice Try.underlying30 (sz := 4) (by kernel_rfl) open_made).mono ?_
  rintro x ⟨xs, hxs, rfl⟩
  obtain ⟨p, rfl⟩ := map_of (f := encMd) xs hxs
  exact ⟨p, rfl⟩
theorem open_ints : Opens Try.prog 24 (fun x => ∃ p : List Int, p.length ≤ 9223372036854775807 ∧ x = .sl 1 (p.map encI)) := by
  refine (Opens.sliceB Try.underlying24 (sz := 1) (by kernel_rfl) (Opens.int Try.underlying3)).mono ?_
  rintro x ⟨xs, hxs, hl, rfl⟩
  obtain ⟨p, rfl⟩ := map_of (f := encI) xs (fun y hy => by obtain ⟨n, _, rfl⟩ := hxs y hy; exact ⟨n, rfl⟩)
  exact ⟨p, by simpa using hl, rfl⟩
theorem open_lines : Opens Try.prog 23 (fun x => ∃ p : List Ln, x = .sl 2 (p.map encL)) := by
  refine (Opens.slice Try.underlying23 (sz := 2) (by kernel_rfl) open_line).mono ?_
  rintro x ⟨xs, hxs, rfl⟩
  obtain ⟨p, rfl⟩ := map_of (f := encL) xs hxs
  exact ⟨p, rfl⟩
theorem open_view : Opens Try.prog 26 (fun x => ∃ ls : List Ln, ∃ p : List Int, p.length ≤ 9223372036854775807 ∧ x = encV ls p) := by
  refine (Opens.struct Try.underlying26 (by kernel_rfl) (Xs := [_, _]) ⟨open_lines, open_ints, trivial⟩).mono ?_
  rintro x ⟨xs, hxs, rfl⟩
  obtain ⟨x0, y0, rfl, ⟨ls, rfl⟩, g0⟩ := hxs.cons
  obtain ⟨x1, y1, rfl, ⟨p, hp, rfl⟩, g1⟩ := g0.cons
  obtain rfl := g1.nil
  exact ⟨ls, p, hp, by simp [encV, IV.cells]⟩
end Go.Proofs.Ytanopjcfackblaa
