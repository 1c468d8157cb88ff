/- What rows of chunks, and small numbers in one piece, read as. -/
import Derived.Test.YtlpoajojkkfhhaaG8
import Derived.Test.YtlpoajojkkfhhaaLC
namespace Go.Proofs.Ytlpoajojkkfhhaa
open Go.PL Go.ChangeShapes Go.WideShapes Go.ChangeAt Go.RowKit
set_option maxRecDepth 100000
theorem open_chunk : Opens Try.prog 51 (fun x => ∃ c : Ck, x = encC c) := by
  have hi := Opens.int Try.underlying3
  refine (Opens.struct Try.underlying51 (by kernel_rfl) (Xs := [_, _, _, _, _, _, _]) ⟨Opens.bool Try.underlying4, hi, hi, hi, hi, hi, hi, trivial⟩).mono ?_
  rintro x ⟨xs, hxs, rfl⟩
  obtain ⟨x0, y0, rfl, ⟨b, rfl⟩, g0⟩ := hxs.cons
  obtain ⟨x1, y1, rfl, ⟨n1, _, rfl⟩, g1⟩ := g0.cons
  obtain ⟨x2, y2, rfl, ⟨n2, _, rfl⟩, g2⟩ := g1.cons
  obtain ⟨x3, y3, rfl, ⟨n3, _, rfl⟩, g3⟩ := g2.cons
  obtain ⟨x4, y4, rfl, ⟨n4, _, rfl⟩, g4⟩ := g3.cons
  obtain ⟨x5, y5, rfl, ⟨n5, _, rfl⟩, g5⟩ := g4.cons
  obtain ⟨x6, y6, rfl, ⟨n6, _, rfl⟩, g6⟩ := g5.cons
  obtain rfl := g6.nil
  exact ⟨⟨b, n1, n2, n3, n4, n5, n6⟩, rfl⟩
theorem open_chunks : Opens Try.prog 42 (fun x => ∃ p : List Ck, p.length ≤ 9223372036854775807 ∧ x = .sl 7 (p.map encC)) := by
  refine (Opens.sliceB Try.underlying42 (sz := 7) (by kernel_rfl) open_chunk).mono ?_
  rintro x ⟨xs, hxs, hl, rfl⟩
  obtain ⟨p, rfl⟩ := map_of (f := encC) xs hxs
  exact ⟨p, by simpa using hl, rfl⟩
theorem u8_bounds {n : Int} (h : (Lit.int .u8 n).wf = true) : 0 ≤ n ∧ n ≤ 255 := by
  simp [Lit.wf, IntKind.min, IntKind.max, IntKind.signed, IntKind.bits] at h
  omega
def encA3 (k : IntKind) (a b c : Int) : IV := .agg [.lit (.int k a), .lit (.int k b), .lit (.int k c)]
attribute [push_cast] encA3
theorem open_three8 : Opens Try.prog 48 (fun x => ∃ a : Int × Int × Int, ((-128 ≤ a.1 ∧ a.1 ≤ 127) ∧ (-128 ≤ a.2.1 ∧ a.2.1 ≤ 127) ∧ (-128 ≤ a.2.2 ∧ a.2.2 ≤ 127)) ∧ x = encA3 .i8 a.1 a.2.1 a.2.2) := by
  refine (Opens.arr Try.underlying48 (by kernel_rfl) (Opens.int Try.underlying23)).mono ?_
  rintro x ⟨zs, hl, hz, rfl⟩
  match zs, hl with
  | [z0, z1, z2], _ =>
    obtain ⟨a, wa, rfl⟩ := hz z0 (by simp)
    obtain ⟨b, wb, rfl⟩ := hz z1 (by simp)
    obtain ⟨c, wc, rfl⟩ := hz z2 (by simp)
    exact ⟨(a, b, c), ⟨i8_bounds wa, i8_bounds wb, i8_bounds wc⟩, rfl⟩
theorem open_three8u : Opens Try.prog 49 (fun x => ∃ a : Int × Int × Int, ((0 ≤ a.1 ∧ a.1 ≤ 255) ∧ (0 ≤ a.2.1 ∧ a.2.1 ≤ 255) ∧ (0 ≤ a.2.2 ∧ a.2.2 ≤ 255)) ∧ x = encA3 .u8 a.1 a.2.1 a.2.2) := by
  refine (Opens.arr Try.underlying49 (by kernel_rfl) (Opens.int Try.underlying5)).mono ?_
  rintro x ⟨zs, hl, hz, rfl⟩
  match zs, hl with
  | [z0, z1, z2], _ =>
    obtain ⟨a, wa, rfl⟩ := hz z0 (by simp)
    obtain ⟨b, wb, rfl⟩ := hz z1 (by simp)
    obtain ⟨c, wc, rfl⟩ := hz z2 (by simp)
    exact ⟨(a, b, c), ⟨u8_bounds wa, u8_bounds wb, u8_bounds wc⟩, rfl⟩
end Go.Proofs.Ytlpoajojkkfhhaa
