/- What the arguments of this seat's laws read as. -/
import Derived.Test.YtjajefphfhdfkaaR6
import Derived.Test.YtjajefphfhdfkaaKBD
import Derived.Test.YtjajefphfhdfkaaRows
namespace Go.Proofs.Ytjajefphfhdfkaa
open Go.PL Go.ChangeShapes Go.WideShapes Go.ChangeAt Go.RowKit
set_option maxRecDepth 100000
set_option linter.unusedSimpArgs false
set_option linter.unusedVariables false
theorem own : ownKnob Try.prog.godebug = none := by kernel_rfl
theorem laidOut : laidOutB Try.prog = true := by kernel_rfl
/-- What a row of such elements reads as. -/
theorem map_of {α : Type} {f : α → IV} : ∀ (xs : List IV), (∀ y ∈ xs, ∃ a, y = f a) → ∃ p : List α, xs = p.map f
  | [], _ => ⟨[], rfl⟩
  | x :: xs, h => by
    obtain ⟨a, rfl⟩ := h x (List.mem_cons_self ..)
    obtain ⟨p, rfl⟩ := map_of xs (fun y hy => h y (List.mem_cons_of_mem _ hy))
    exact ⟨a :: p, rfl⟩
theorem map_ofP {α : Type} {f : α → IV} {Q : α → Prop} : ∀ (xs : List IV), (∀ y ∈ xs, ∃ a, Q a ∧ y = f a) → ∃ p : List α, (∀ a ∈ p, Q a) ∧ xs = p.map f
  | [], _ => ⟨[], by simp, rfl⟩
  | x :: xs, h => by
    obtain ⟨a, ha, rfl⟩ := h x (List.mem_cons_self ..)
    obtain ⟨p, hp, rfl⟩ := map_ofP xs (fun y hy => h y (List.mem_cons_of_mem _ hy))
    exact ⟨a :: p, fun b hb => (List.mem_cons.1 hb).elim (fun e => e ▸ ha) (hp b), rfl⟩
theorem open_str : Opens Try.prog 9 (fun x => ∃ l : List UInt8, x = .lit (.string ⟨l.toArray⟩)) := by
  refine (Opens.str Try.underlying9).mono ?_
  rintro x ⟨s, _, rfl⟩
  exact ⟨s.data.toList, rfl⟩
theorem open_line : Opens Try.prog 47 (fun x => ∃ c : Ln, x = encL c) := by
  refine (Opens.struct Try.underlying47 (by kernel_rfl) (Xs := [_, _]) ⟨open_str, Opens.bool Try.underlying4, trivial⟩).mono ?_
  rintro x ⟨xs, hxs, rfl⟩
  obtain ⟨x0, y0, rfl, ⟨s, rfl⟩, g0⟩ := hxs.cons
  obtain ⟨x1, y1, rfl, ⟨b, rfl⟩, g1⟩ := g0.cons
  obtain rfl := g1.nil
  exact ⟨⟨s, b⟩, by simp [encL, IV.cells]⟩
theorem u8_b {n : Int} (h : (Lit.int .u8 n).wf = true) : 0 ≤ n ∧ n ≤ 255 := by simpa [Lit.wf, IntKind.min, IntKind.max, IntKind.signed, IntKind.bits] using h
theorem i16_b {n : Int} (h : (Lit.int .i16 n).wf = true) : -32768 ≤ n ∧ n ≤ 32767 := by simpa [Lit.wf, IntKind.min, IntKind.max, IntKind.signed, IntKind.bits] using h
theorem open_pair : Opens Try.prog 61 (fun x => ∃ c : Pr, (0 ≤ c.g ∧ c.g ≤ 255) ∧ x = encP c) := by
  refine (Opens.struct Try.underlying61 (by kernel_rfl) (Xs := [_, _, _]) ⟨Opens.int Try.underlying5, open_str, open_str, trivial⟩).mono ?_
  rintro x ⟨xs, hxs, rfl⟩
  obtain ⟨x0, y0, rfl, ⟨n, hn, rfl⟩, g0⟩ := hxs.cons
  obtain ⟨x1, y1, rfl, ⟨s, rfl⟩, g1⟩ := g0.cons
  obtain ⟨x2, y2, rfl, ⟨r, rfl⟩, g2⟩ := g1.cons
  obtain rfl := g2.nil
  exact ⟨⟨n, s, r⟩, u8_b hn, by simp [encP, IV.cells]⟩
theorem open_rows : Opens Try.prog 23 (fun x => ∃ p : List Pr, okG p ∧ x = .sl 3 (p.map encP)) := by
  refine (Opens.slice Try.underlying23 (sz := 3) (by kernel_rfl) open_pair).mono ?_
  rintro x ⟨xs, hxs, rfl⟩
  obtain ⟨p, hp, rfl⟩ := map_ofP (f := encP) xs hxs
  exact ⟨p, hp, rfl⟩
theorem open_linesG : OpensG Try.prog (sized Try.prog) 43 (fun x => ∃ p : List Ln, p.length ≤ 1000000000000000 ∧ x = .sl 2 (p.map encL)) := by
  refine (OpensG.slice (sz := 2) 1000000000000000 (sized_sl Try.underlying43 _ (by rw [show Try.prog.bytesOf 47 = 24 by kernel_rfl]; decide)) Try.underlying43 (by kernel_rfl) open_line.toG).mono ?_
  rintro x ⟨xs, hxs, hl, rfl⟩
  obtain ⟨p, rfl⟩ := map_of (f := encL) xs hxs
  exact ⟨p, by simpa using hl, rfl⟩
theorem open_edit : OpensG Try.prog (sized Try.prog) 57 (fun x => ∃ c : Ed, c.l.length ≤ 1000000000000000 ∧ x = encE c) := by
  refine (OpensG.struct Try.underlying57 (by kernel_rfl) (sized_st Try.underlying57) (Xs := [_, _]) ⟨(Opens.int Try.underlying55).toG, open_linesG, trivial⟩).mono ?_
  rintro x ⟨xs, hxs, rfl⟩
  obtain ⟨x0, y0, rfl, ⟨n, _, rfl⟩, g0⟩ := hxs.cons
  obtain ⟨x1, y1, rfl, ⟨p, hp, rfl⟩, g1⟩ := g0.cons
  obtain rfl := g1.nil
  exact ⟨⟨n, p⟩, hp, by simp [encE, IV.cells]⟩
theorem open_edits : OpensG Try.prog (sized Try.prog) 22 (fun x => ∃ p : List Ed, bigE p ∧ x = .sl 2 (p.map encE)) := by
  refine (OpensG.slice (sz := 2) 1000000000000000 (sized_sl Try.underlying22 _ (by rw [show Try.prog.bytesOf 57 = 32 by kernel_rfl]; decide)) Try.underlying22 (by kernel_rfl) open_edit).mono ?_
  rintro x ⟨xs, hxs, hl, rfl⟩
  obtain ⟨p, hp, rfl⟩ := map_ofP (f := encE) xs hxs
  exact ⟨p, hp, rfl⟩
end Go.Proofs.Ytjajefphfhdfkaa
