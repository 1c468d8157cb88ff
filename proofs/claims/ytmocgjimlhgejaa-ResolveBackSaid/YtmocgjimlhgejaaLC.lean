/- What the arguments of this seat's laws read as. -/
import Derived.Test.YtmocgjimlhgejaaU1
import Derived.Test.YtmocgjimlhgejaaKBD
import Derived.Test.YtmocgjimlhgejaaKBC
import Derived.Test.YtmocgjimlhgejaaRows
namespace Go.Proofs.Ytmocgjimlhgejaa
open Go.PL Go.ChangeShapes Go.WideShapes Go.ChangeAt Go.RowKit
set_option maxRecDepth 100000
set_option linter.unusedSimpArgs false
set_option linter.unusedVariables false
theorem own : ownKnob Try.prog.godebug = none := by kernel_rfl
theorem laidOut : laidOutB Try.prog = true := by kernel_rfl
/-- What a row of such elements reads as. -/
theorem map_of {α : Type} {f : α → IV} : ∀ (xs : List IV), (∀ y ∈ xs, ∃ a, y = f a) → ∃ p : List α, xs = p.map f
  | [], _ => ⟨[], rfl⟩
  | x :: xs, h => by
    obtain ⟨a, rfl⟩ := h x (List.mem_cons_self ..)
    obtain ⟨p, rfl⟩ := map_of xs (fun y hy => h y (List.mem_cons_of_mem _ hy))
    exact ⟨a :: p, rfl⟩
theorem open_str : Opens Try.prog 9 (fun x => ∃ l : List UInt8, x = encS l) := by
  refine (Opens.str Try.underlying9).mono ?_
  rintro x ⟨s, _, rfl⟩
  exact ⟨s.data.toList, rfl⟩
theorem open_line : Opens Try.prog 38 (fun x => ∃ c : Ln, x = encL c) := by
  refine (Opens.struct Try.underlying38 (by kernel_rfl) (Xs := [_, _]) ⟨Opens.str Try.underlying9, Opens.bool Try.underlying4, trivial⟩).mono ?_
  rintro x ⟨xs, hxs, rfl⟩
  obtain ⟨x0, y0, rfl, ⟨s, _, rfl⟩, g0⟩ := hxs.cons
  obtain ⟨x1, y1, rfl, ⟨b, rfl⟩, g1⟩ := g0.cons
  obtain rfl := g1.nil
  exact ⟨⟨s.data.toList, b⟩, by simp [encL, encS, IV.cells]⟩
theorem open_lines : Opens Try.prog 22 (fun x => ∃ p : List Ln, x = .sl 2 (p.map encL)) := by
  refine (Opens.slice Try.underlying22 (sz := 2) (by kernel_rfl) open_line).mono ?_
  rintro x ⟨xs, hxs, rfl⟩
  obtain ⟨p, rfl⟩ := map_of (f := encL) xs hxs
  exact ⟨p, rfl⟩
/-! ### Where the bulk is bounded -/
def small (H : Type) (_ : TypeId) (d : DataW H) : Prop := Rows.uptoBulk d ≤ 1048576
theorem one_le {H : Type} (d : DataW H) : 1 ≤ Rows.uptoBulk d := by
  cases d with
  | lit l => cases l <;> simp [Rows.uptoBulk]
  | _ => simp [Rows.uptoBulk]
theorem part_le {H : Type} {d : DataW H} : ∀ {l : List (DataW H)}, d ∈ l → Rows.uptoBulk d ≤ Rows.uptoBulkAll l
  | [], h => by cases h
  | x :: r, h => by
    simp only [Rows.uptoBulkAll]
    rcases List.mem_cons.1 h with e | e
    · subst e; omega
    · have := part_le e; omega
theorem len_le {H : Type} : ∀ (l : List (DataW H)), l.length ≤ Rows.uptoBulkAll l
  | [] => Nat.zero_le _
  | x :: r => by
    have := one_le x
    have := len_le r
    simp only [Rows.uptoBulkAll, List.length_cons]
    omega
theorem small_sl (t e : TypeId) : ∀ (H : Type) (l r : List (DataW H)), small H t (.slice l r) → (∀ d ∈ l, small H e d) ∧ l.length ≤ 1048576 := by
  intro H l r h
  unfold small at *
  simp only [Rows.uptoBulk] at h
  refine ⟨fun d hd => ?_, ?_⟩
  · have := part_le hd; omega
  · have := len_le l; omega
theorem small_st (t : TypeId) (fs : Array Field) : ∀ (H : Type) (l : List (DataW H)), small H t (.agg l) → ∀ (i : Nat) (f : Field) (d : DataW H), fs.toList[i]? = some f → l[i]? = some d → small H f.type d := by
  intro H l h i f d _ hd
  unfold small at *
  simp only [Rows.uptoBulk] at h
  have := part_le (List.mem_of_getElem? hd)
  omega
theorem map_ofP {α : Type} {f : α → IV} {p : α → Prop} : ∀ (xs : List IV), (∀ y ∈ xs, ∃ a, p a ∧ y = f a) → ∃ l : List α, (∀ a ∈ l, p a) ∧ xs = l.map f
  | [], _ => ⟨[], by simp, rfl⟩
  | x :: xs, h => by
    obtain ⟨a, ha, rfl⟩ := h x (List.mem_cons_self ..)
    obtain ⟨l, hl, rfl⟩ := map_ofP xs (fun y hy => h y (List.mem_cons_of_mem _ hy))
    exact ⟨a :: l, fun b hb => by rcases List.mem_cons.1 hb with rfl | hb; exact ha; exact hl b hb, rfl⟩
theorem open_linesU : OpensG Try.prog small 22 (fun x => ∃ p : List Ln, p.length ≤ 1048576 ∧ x = sL p) := by
  refine (OpensG.slice (sz := 2) 1048576 (small_sl _ _) Try.underlying22 (by kernel_rfl) open_line.toG).mono ?_
  rintro x ⟨xs, hxs, hl, rfl⟩
  obtain ⟨p, rfl⟩ := map_of (f := encL) xs hxs
  exact ⟨p, by simpa using hl, rfl⟩
theorem open_regU : OpensG Try.prog small 59 (fun x => ∃ c : Rg, (c.l.length ≤ 1048576 ∧ c.m.length ≤ 1048576 ∧ c.o.length ≤ 1048576 ∧ c.h.length ≤ 1048576) ∧ x = encR c) := by
  refine (OpensG.struct Try.underlying59 (by kernel_rfl) (small_st _ _) (Xs := [_, _, _, _, _]) ⟨(Opens.bool Try.underlying4).toG, open_linesU, open_linesU, open_linesU, open_linesU, trivial⟩).mono ?_
  rintro x ⟨xs, hxs, rfl⟩
  obtain ⟨x0, y0, rfl, ⟨b, rfl⟩, g0⟩ := hxs.cons
  obtain ⟨x1, y1, rfl, ⟨p1, h1, rfl⟩, g1⟩ := g0.cons
  obtain ⟨x2, y2, rfl, ⟨p2, h2, rfl⟩, g2⟩ := g1.cons
  obtain ⟨x3, y3, rfl, ⟨p3, h3, rfl⟩, g3⟩ := g2.cons
  obtain ⟨x4, y4, rfl, ⟨p4, h4, rfl⟩, g4⟩ := g3.cons
  obtain rfl := g4.nil
  exact ⟨⟨b, p1, p2, p3, p4⟩, ⟨h1, h2, h3, h4⟩, by simp [encR, sL, IV.cells]⟩
theorem open_regsU : OpensG Try.prog small 23 (fun x => ∃ p : List Rg, ((∀ c ∈ p, c.l.length ≤ 1048576 ∧ c.m.length ≤ 1048576 ∧ c.o.length ≤ 1048576 ∧ c.h.length ≤ 1048576) ∧ p.length ≤ 1048576) ∧ x = .sl 5 (p.map encR)) := by
  refine (OpensG.slice (sz := 5) 1048576 (small_sl _ _) Try.underlying23 (by kernel_rfl) open_regU).mono ?_
  rintro x ⟨xs, hxs, hl, rfl⟩
  obtain ⟨p, hp, rfl⟩ := map_ofP (f := encR) xs hxs
  exact ⟨p, ⟨hp, by simpa using hl⟩, rfl⟩
theorem open_chU : OpensG Try.prog small 30 (fun x => ∃ p : List Int, p.length ≤ 1048576 ∧ x = .sl 1 (p.map fun n => .lit (.int .i64 n))) := by
  refine (OpensG.slice (sz := 1) 1048576 (small_sl _ _) Try.underlying30 (by kernel_rfl) (Opens.int Try.underlying48).toG).mono ?_
  rintro x ⟨xs, hxs, hl, rfl⟩
  obtain ⟨p, rfl⟩ := map_of (f := fun n : Int => IV.lit (.int .i64 n)) xs (fun y hy => by obtain ⟨n, _, rfl⟩ := hxs y hy; exact ⟨n, rfl⟩)
  exact ⟨p, by simpa using hl, rfl⟩
end Go.Proofs.Ytmocgjimlhgejaa
