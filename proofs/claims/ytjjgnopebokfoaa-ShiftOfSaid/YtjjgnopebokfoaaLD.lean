/- What a script reads as. -/
import Derived.Test.YtjjgnopebokfoaaNX
import Derived.Test.YtjjgnopebokfoaaKBD
import Derived.Test.YtjjgnopebokfoaaLC
namespace Go.Proofs.Ytjjgnopebokfoaa
open Go.PL Go.ChangeShapes Go.WideShapes Go.ChangeAt Go.RowKit
set_option maxRecDepth 100000
set_option linter.unusedSimpArgs false
set_option linter.unusedVariables false
theorem open_linesG : OpensG Try.prog (sized Try.prog) 32 (fun x => ∃ p : List Ln, p.length ≤ 1000000000000000 ∧ x = .sl 2 (p.map encL)) := by
  refine (OpensG.slice (sz := 2) 1000000000000000 (sized_sl Try.underlying32 _ (by rw [show Try.prog.bytesOf 49 = 24 by kernel_rfl]; decide)) Try.underlying32 (by kernel_rfl) open_line.toG).mono ?_
  rintro x ⟨xs, hxs, hl, rfl⟩
  obtain ⟨p, rfl⟩ := map_of (f := encL) xs hxs
  exact ⟨p, by simpa using hl, rfl⟩
theorem open_edit : OpensG Try.prog (sized Try.prog) 62 (fun x => ∃ c : Ed, c.l.length ≤ 1000000000000000 ∧ x = encE c) := by
  refine (OpensG.struct Try.underlying62 (by kernel_rfl) (sized_st Try.underlying62) (Xs := [_, _]) ⟨(Opens.int Try.underlying60).toG, open_linesG, trivial⟩).mono ?_
  rintro x ⟨xs, hxs, rfl⟩
  obtain ⟨x0, y0, rfl, ⟨n, _, rfl⟩, g0⟩ := hxs.cons
  obtain ⟨x1, y1, rfl, ⟨p, hp, rfl⟩, g1⟩ := g0.cons
  obtain rfl := g1.nil
  exact ⟨⟨n, p⟩, hp, by simp [encE, IV.cells]⟩
theorem map_ofP {α : Type} {f : α → IV} {Q : α → Prop} : ∀ (xs : List IV), (∀ y ∈ xs, ∃ a, Q a ∧ y = f a) → ∃ p : List α, (∀ a ∈ p, Q a) ∧ xs = p.map f
  | [], _ => ⟨[], by simp, rfl⟩
  | x :: xs, h => by
    obtain ⟨a, ha, rfl⟩ := h x (List.mem_cons_self ..)
    obtain ⟨p, hp, rfl⟩ := map_ofP xs (fun y hy => h y (List.mem_cons_of_mem _ hy))
    exact ⟨a :: p, fun b hb => (List.mem_cons.1 hb).elim (fun e => e ▸ ha) (hp b), rfl⟩
theorem open_edits : OpensG Try.prog (sized Try.prog) 41 (fun x => ∃ p : List Ed, bigE p ∧ x = .sl 2 (p.map encE)) := by
  refine (OpensG.slice (sz := 2) 1000000000000000 (sized_sl Try.underlying41 _ (by rw [show Try.prog.bytesOf 62 = 32 by kernel_rfl]; decide)) Try.underlying41 (by kernel_rfl) open_edit).mono ?_
  rintro x ⟨xs, hxs, hl, rfl⟩
  obtain ⟨p, hp, rfl⟩ := map_ofP (f := encE) xs hxs
  exact ⟨p, hp, rfl⟩
end Go.Proofs.Ytjjgnopebokfoaa
