/- Rows of lines opened, with the bound on their texts. -/
import Derived.Test.YtjcdmdejhbmoeaaT7
import Derived.Test.YtjcdmdejhbmoeaaLC
namespace Go.Proofs.Ytjcdmdejhbmoeaa
open Go.PL Go.ChangeShapes Go.WideShapes Go.ChangeAt Go.RowKit
set_option maxRecDepth 100000
theorem open_lineT : Opens Try.prog 48 (fun x => ∃ c : Ln, c.t.length ≤ 9223372036854775807 ∧ x = encL c) := by
  refine (Opens.struct Try.underlying48 (by kernel_rfl) (Xs := [_, _]) ⟨Opens.str Try.underlying9, Opens.bool Try.underlying4, trivial⟩).mono ?_
  rintro x ⟨xs, hxs, rfl⟩
  obtain ⟨x0, y0, rfl, ⟨s, hs, rfl⟩, g0⟩ := hxs.cons
  obtain ⟨x1, y1, rfl, ⟨b, rfl⟩, g1⟩ := g0.cons
  obtain rfl := g1.nil
  refine ⟨⟨s.data.toList, b⟩, ?_, by simp [encL, IV.cells]⟩
  have : s.data.toList.length = s.size := by show _ = s.data.size; simp
  simp only
  omega
theorem open_linesT : Opens Try.prog 22 (fun x => ∃ p : List Ln, okT p ∧ x = .sl 2 (p.map encL)) := by
  refine (Opens.slice Try.underlying22 (sz := 2) (by kernel_rfl) open_lineT).mono ?_
  rintro x ⟨xs, hxs, rfl⟩
  have key : ∀ l : List IV, (∀ y ∈ l, ∃ c : Ln, c.t.length ≤ 9223372036854775807 ∧ y = encL c) → ∃ p : List Ln, okT p ∧ l = p.map encL := by
    intro l
    induction l with
    | nil => intro _; exact ⟨[], fun x hx => (by cases hx), rfl⟩
    | cons y l ih =>
      intro h
      obtain ⟨c, hc, rfl⟩ := h y (List.mem_cons_self ..)
      obtain ⟨p, hp, rfl⟩ := ih (fun z hz => h z (List.mem_cons_of_mem _ hz))
      refine ⟨c :: p, fun z hz => ?_, rfl⟩
      rcases List.mem_cons.1 hz with rfl | hz
      · exact hc
      · exact hp z hz
  obtain ⟨p, hp, rfl⟩ := key xs hxs
  exact ⟨p, hp, rfl⟩
end Go.Proofs.Ytjcdmdejhbmoeaa
