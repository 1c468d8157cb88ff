/- What the arguments of this seat's laws read as. -/
import Derived.Test.YtjcdmdejhbmoeaaBX
import Derived.Test.YtjcdmdejhbmoeaaKBC
import Derived.Test.YtjcdmdejhbmoeaaRows
namespace Go.Proofs.Ytjcdmdejhbmoeaa
open Go.PL Go.ChangeShapes Go.WideShapes Go.ChangeAt Go.RowKit
set_option maxRecDepth 100000
set_option linter.unusedSimpArgs false
set_option linter.unusedVariables false
theorem own : ownKnob Try.prog.godebug = none := by kernel_rfl
theorem laidOut : laidOutB Try.prog = true := by kernel_rfl
/-- What a row of such elements reads as. -/
theorem map_of {α : Type} {f : α → IV} : ∀ (xs : List IV), (∀ y ∈ xs, ∃ a, y = f a) → ∃ p : List α, xs = p.map f
  | [], _ => ⟨[], rfl⟩
  | x :: xs, h => by
    obtain ⟨a, rfl⟩ := h x (List.mem_cons_self ..)
    obtain ⟨p, rfl⟩ := map_of xs (fun y hy => h y (List.mem_cons_of_mem _ hy))
    exact ⟨a :: p, rfl⟩
theorem open_line : Opens Try.prog 48 (fun x => ∃ c : Ln, x = encL c) := by
  refine (Opens.struct Try.underlying48 (by kernel_rfl) (Xs := [_, _]) ⟨Opens.str Try.underlying9, Opens.bool Try.underlying4, trivial⟩).mono ?_
  rintro x ⟨xs, hxs, rfl⟩
  obtain ⟨x0, y0, rfl, ⟨s, _, rfl⟩, g0⟩ := hxs.cons
  obtain ⟨x1, y1, rfl, ⟨b, rfl⟩, g1⟩ := g0.cons
  obtain rfl := g1.nil
  exact ⟨⟨s.data.toList, b⟩, by simp [encL, IV.cells]⟩
theorem open_lines : Opens Try.prog 22 (fun x => ∃ p : List Ln, x = .sl 2 (p.map encL)) := by
  refine (Opens.slice Try.underlying22 (sz := 2) (by kernel_rfl) open_line).mono ?_
  rintro x ⟨xs, hxs, rfl⟩
  obtain ⟨p, rfl⟩ := map_of (f := encL) xs hxs
  exact ⟨p, rfl⟩
theorem open_pairs : Opens Try.prog 30 (fun x => ∃ p : List (Int × Int), x = .sl 2 (p.map encP)) := by
  intro H enc W base sp held fuel cs y h
  obtain ⟨x, ⟨xs, hxs, rfl⟩, hx⟩ := (Opens.slice Try.underlying30 (sz := 2) (by kernel_rfl) (Opens.arr Try.underlying52 (by kernel_rfl) (Opens.int Try.underlying3))) H enc W base sp held fuel cs y h
  obtain ⟨p, rfl⟩ := map_of (f := encP) xs (fun y hy => by
    obtain ⟨zs, hl, hz, rfl⟩ := hxs y hy
    match zs, hl with
    | [z0, z1], _ =>
      obtain ⟨a, _, rfl⟩ := hz z0 (by simp)
      obtain ⟨b, _, rfl⟩ := hz z1 (by simp)
      exact ⟨(a, b), rfl⟩)
  exact ⟨_, ⟨p, rfl⟩, hx⟩
theorem open_chunk : Opens Try.prog 36 (fun x => ∃ c : Ck, x = encC c) := by
  have hi := Opens.int Try.underlying3
  refine (Opens.struct Try.underlying36 (by kernel_rfl) (Xs := [_, _, _, _, _, _, _]) ⟨Opens.bool Try.underlying4, hi, hi, hi, hi, hi, hi, trivial⟩).mono ?_
  rintro x ⟨xs, hxs, rfl⟩
  obtain ⟨x0, y0, rfl, ⟨b, rfl⟩, g0⟩ := hxs.cons
  obtain ⟨x1, y1, rfl, ⟨n1, _, rfl⟩, g1⟩ := g0.cons
  obtain ⟨x2, y2, rfl, ⟨n2, _, rfl⟩, g2⟩ := g1.cons
  obtain ⟨x3, y3, rfl, ⟨n3, _, rfl⟩, g3⟩ := g2.cons
  obtain ⟨x4, y4, rfl, ⟨n4, _, rfl⟩, g4⟩ := g3.cons
  obtain ⟨x5, y5, rfl, ⟨n5, _, rfl⟩, g5⟩ := g4.cons
  obtain ⟨x6, y6, rfl, ⟨n6, _, rfl⟩, g6⟩ := g5.cons
  obtain rfl := g6.nil
  exact ⟨⟨b, n1, n2, n3, n4, n5, n6⟩, rfl⟩
theorem open_piece : Opens Try.prog 38 (fun x => ∃ c : Pc, x = encPc c) := by
  refine (Opens.struct Try.underlying38 (by kernel_rfl) (Xs := [_, _]) ⟨Opens.int Try.underlying34, open_chunk, trivial⟩).mono ?_
  rintro x ⟨xs, hxs, rfl⟩
  obtain ⟨x0, y0, rfl, ⟨n, _, rfl⟩, g0⟩ := hxs.cons
  obtain ⟨x1, y1, rfl, ⟨c, rfl⟩, g1⟩ := g0.cons
  obtain rfl := g1.nil
  exact ⟨⟨n, c⟩, by simp [encPc, encC, IV.cells]⟩
theorem open_pieces : Opens Try.prog 26 (fun x => ∃ p : List Pc, x = .sl 8 (p.map encPc)) := by
  refine (Opens.slice Try.underlying26 (sz := 8) (by kernel_rfl) open_piece).mono ?_
  rintro x ⟨xs, hxs, rfl⟩
  obtain ⟨p, rfl⟩ := map_of (f := encPc) xs hxs
  exact ⟨p, rfl⟩
end Go.Proofs.Ytjcdmdejhbmoeaa
