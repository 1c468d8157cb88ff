/- THE STATEMENT ResolveMerges: for every input the law answers true, and its input reads as it did (with LC and LT). -/
import Derived.Test.YtmocgjimlhgejaaWY
import Derived.Test.YtmocgjimlhgejaaKBD
import Derived.Test.YtmocgjimlhgejaaKBC
import Derived.Test.YtmocgjimlhgejaaRows
namespace Go.Proofs.Ytmocgjimlhgejaa
open Go.PL Go.ChangeShapes Go.WideShapes Go.ChangeAt Go.RowKit
set_option maxRecDepth 100000
set_option linter.unusedSimpArgs false
set_option linter.unusedVariables false
theorem own : ownKnob Try.prog.godebug = none := by kernel_rfl
theorem laidOut : laidOutB Try.prog = true := by kernel_rfl
/-- What a row of such elements reads as. -/
theorem map_of {α : Type} {f : α → IV} : ∀ (xs : List IV), (∀ y ∈ xs, ∃ a, y = f a) → ∃ p : List α, xs = p.map f
  | [], _ => ⟨[], rfl⟩
  | x :: xs, h => by
    obtain ⟨a, rfl⟩ := h x (List.mem_cons_self ..)
    obtain ⟨p, rfl⟩ := map_of xs (fun y hy => h y (List.mem_cons_of_mem _ hy))
    exact ⟨a :: p, rfl⟩
theorem open_str : Opens Try.prog 9 (fun x => ∃ l : List UInt8, x = encS l) := by
  refine (Opens.str Try.underlying9).mono ?_
  rintro x ⟨s, _, rfl⟩
  exact ⟨s.data.toList, rfl⟩
theorem open_line : Opens Try.prog 38 (fun x => ∃ c : Ln, x = encL c) := by
  refine (Opens.struct Try.underlying38 (by kernel_rfl) (Xs := [_, _]) ⟨Opens.str Try.underlying9, Opens.bool Try.underlying4, trivial⟩).mono ?_
  rintro x ⟨xs, hxs, rfl⟩
  obtain ⟨x0, y0, rfl, ⟨s, _, rfl⟩, g0⟩ := hxs.cons
  obtain ⟨x1, y1, rfl, ⟨b, rfl⟩, g1⟩ := g0.cons
  obtain rfl := g1.nil
  exact ⟨⟨s.data.toList, b⟩, by simp [encL, encS, IV.cells]⟩
theorem open_lines : Opens Try.prog 22 (fun x => ∃ p : List Ln, x = .sl 2 (p.map encL)) := by
  refine (Opens.slice Try.underlying22 (sz := 2) (by kernel_rfl) open_line).mono ?_
  rintro x ⟨xs, hxs, rfl⟩
  obtain ⟨p, rfl⟩ := map_of (f := encL) xs hxs
  exact ⟨p, rfl⟩
/-! ### Where the bulk is bounded -/
def small (H : Type) (_ : TypeId) (d : DataW H) : Prop := Rows.uptoBulk d ≤ 1048576
theorem one_le {H : Type} (d : DataW H) : 1 ≤ Rows.uptoBulk d := by
  cases d with
  | lit l => cases l <;> simp [Rows.uptoBulk]
  | _ => simp [Rows.uptoBulk]
theorem part_le {H : Type} {d : DataW H} : ∀ {l : List (DataW H)}, d ∈ l → Rows.uptoBulk d ≤ Rows.uptoBulkAll l
  | [], h => by cases h
  | x :: r, h => by
    simp only [Rows.uptoBulkAll]
    rcases List.mem_cons.1 h with e | e
    · subst e; omega
    · have := part_le e; omega
theorem len_le {H : Type} : ∀ (l : List (DataW H)), l.length ≤ Rows.uptoBulkAll l
  | [] => Nat.zero_le _
  | x :: r => by
    have := one_le x
    have := len_le r
    simp only [Rows.uptoBulkAll, List.length_cons]
    omega
theorem small_sl (t e : TypeId) : ∀ (H : Type) (l r : List (DataW H)), small H t (.slice l r) → (∀ d ∈ l, small H e d) ∧ l.length ≤ 1048576 := by
  intro H l r h
  unfold small at *
  simp only [Rows.uptoBulk] at h
  refine ⟨fun d hd => ?_, ?_⟩
  · have := part_le hd; omega
  · have := len_le l; omega
theorem small_st (t : TypeId) (fs : Array Field) : ∀ (H : Type) (l : List (DataW H)), small H t (.agg l) → ∀ (i : Nat) (f : Field) (d : DataW H), fs.toList[i]? = some f → l[i]? = some d → small H f.type d := by
  intro H l h i f d _ hd
  unfold small at *
  simp only [Rows.uptoBulk] at h
  have := part_le (List.mem_of_getElem? hd)
  omega
theorem map_ofP {α : Type} {f : α → IV} {p : α → Prop} : ∀ (xs : List IV), (∀ y ∈ xs, ∃ a, p a ∧ y = f a) → ∃ l : List α, (∀ a ∈ l, p a) ∧ xs = l.map f
  | [], _ => ⟨[], by simp, rfl⟩
  | x :: xs, h => by
    obtain ⟨a, ha, rfl⟩ := h x (List.mem_cons_self ..)
    obtain ⟨l, hl, rfl⟩ := map_ofP xs (fun y hy => h y (List.mem_cons_of_mem _ hy))
    exact ⟨a :: l, fun b hb => by rcases List.mem_cons.1 hb with rfl | hb; exact ha; exact hl b hb, rfl⟩
theorem open_linesU : OpensG Try.prog small 22 (fun x => ∃ p : List Ln, p.length ≤ 1048576 ∧ x = sL p) := by
  refine (OpensG.slice (sz := 2) 1048576 (small_sl _ _) Try.underlying22 (by kernel_rfl) open_line.toG).mono ?_
  rintro x ⟨xs, hxs, hl, rfl⟩
  obtain ⟨p, rfl⟩ := map_of (f := encL) xs hxs
  exact ⟨p, by simpa using hl, rfl⟩
theorem open_regU : OpensG Try.prog small 59 (fun x => ∃ c : Rg, (c.l.length ≤ 1048576 ∧ c.m.length ≤ 1048576 ∧ c.o.length ≤ 1048576 ∧ c.h.length ≤ 1048576) ∧ x = encR c) := by
  refine (OpensG.struct Try.underlying59 (by kernel_rfl) (small_st _ _) (Xs := [_, _, _, _, _]) ⟨(Opens.bool Try.underlying4).toG, open_linesU, open_linesU, open_linesU, open_linesU, trivial⟩).mono ?_
  rintro x ⟨xs, hxs, rfl⟩
  obtain ⟨x0, y0, rfl, ⟨b, rfl⟩, g0⟩ := hxs.cons
  obtain ⟨x1, y1, rfl, ⟨p1, h1, rfl⟩, g1⟩ := g0.cons
  obtain ⟨x2, y2, rfl, ⟨p2, h2, rfl⟩, g2⟩ := g1.cons
  obtain ⟨x3, y3, rfl, ⟨p3, h3, rfl⟩, g3⟩ := g2.cons
  obtain ⟨x4, y4, rfl, ⟨p4, h4, rfl⟩, g4⟩ := g3.cons
  obtain rfl := g4.nil
  exact ⟨⟨b, p1, p2, p3, p4⟩, ⟨h1, h2, h3, h4⟩, by simp [encR, sL, IV.cells]⟩
theorem open_regsU : OpensG Try.prog small 23 (fun x => ∃ p : List Rg, ((∀ c ∈ p, c.l.length ≤ 1048576 ∧ c.m.length ≤ 1048576 ∧ c.o.length ≤ 1048576 ∧ c.h.length ≤ 1048576) ∧ p.length ≤ 1048576) ∧ x = .sl 5 (p.map encR)) := by
  refine (OpensG.slice (sz := 5) 1048576 (small_sl _ _) Try.underlying23 (by kernel_rfl) open_regU).mono ?_
  rintro x ⟨xs, hxs, hl, rfl⟩
  obtain ⟨p, hp, rfl⟩ := map_ofP (f := encR) xs hxs
  exact ⟨p, ⟨hp, by simpa using hl⟩, rfl⟩
theorem open_chU : OpensG Try.prog small 30 (fun x => ∃ p : List Int, p.length ≤ 1048576 ∧ x = .sl 1 (p.map fun n => .lit (.int .i64 n))) := by
  refine (OpensG.slice (sz := 1) 1048576 (small_sl _ _) Try.underlying30 (by kernel_rfl) (Opens.int Try.underlying48).toG).mono ?_
  rintro x ⟨xs, hxs, hl, rfl⟩
  obtain ⟨p, rfl⟩ := map_of (f := fun n : Int => IV.lit (.int .i64 n)) xs (fun y hy => by obtain ⟨n, _, rfl⟩ := hxs y hy; exact ⟨n, rfl⟩)
  exact ⟨p, by simpa using hl, rfl⟩
end Go.Proofs.Ytmocgjimlhgejaa
namespace Go.Proofs.Ytmocgjimlhgejaa
open Go.PL Go.ChangeShapes Go.WideShapes Go.ChangeAt Go.RowKit
set_option maxRecDepth 100000
set_option linter.unusedSimpArgs false
theorem u8_b {n : Int} (h : (Lit.int .u8 n).wf = true) : 0 ≤ n ∧ n ≤ 255 := by simpa [Lit.wf, IntKind.min, IntKind.max, IntKind.signed, IntKind.bits] using h
theorem open_lineT : Opens Try.prog 38 (fun x => ∃ c : Ln, c.t.length ≤ 9223372036854775807 ∧ x = encL c) := by
  refine (Opens.struct Try.underlying38 (by kernel_rfl) (Xs := [_, _]) ⟨Opens.str Try.underlying9, Opens.bool Try.underlying4, trivial⟩).mono ?_
  rintro x ⟨xs, hxs, rfl⟩
  obtain ⟨x0, y0, rfl, ⟨s, hs, rfl⟩, g0⟩ := hxs.cons
  obtain ⟨x1, y1, rfl, ⟨b, rfl⟩, g1⟩ := g0.cons
  obtain rfl := g1.nil
  refine ⟨⟨s.data.toList, b⟩, ?_, by simp [encL, encS, IV.cells]⟩
  have : s.data.toList.length = s.size := by show _ = s.data.size; simp
  simp only
  omega
theorem open_linesT : Opens Try.prog 22 (fun x => ∃ p : List Ln, okT p ∧ x = .sl 2 (p.map encL)) := by
  refine (Opens.slice Try.underlying22 (sz := 2) (by kernel_rfl) open_lineT).mono ?_
  rintro x ⟨xs, hxs, rfl⟩
  have key : ∀ l : List IV, (∀ y ∈ l, ∃ c : Ln, c.t.length ≤ 9223372036854775807 ∧ y = encL c) → ∃ p : List Ln, okT p ∧ l = p.map encL := by
    intro l
    induction l with
    | nil => intro _; exact ⟨[], fun x hx => (by cases hx), rfl⟩
    | cons y l ih =>
      intro h
      obtain ⟨c, hc, rfl⟩ := h y (List.mem_cons_self ..)
      obtain ⟨p, hp, rfl⟩ := ih (fun z hz => h z (List.mem_cons_of_mem _ hz))
      refine ⟨c :: p, fun z hz => ?_, rfl⟩
      rcases List.mem_cons.1 hz with rfl | hz
      · exact hc
      · exact hp z hz
  obtain ⟨p, hp, rfl⟩ := key xs hxs
  exact ⟨p, hp, rfl⟩
end Go.Proofs.Ytmocgjimlhgejaa
namespace Go.Proofs.Ytmocgjimlhgejaa
open Go.PL Go.ChangeShapes Go.WideShapes Go.ChangeAt Go.RowKit
set_option maxRecDepth 100000
set_option linter.unusedSimpArgs false
set_option linter.unusedVariables false
theorem ResolveMerges_lifted (os : Os) (started : os.Started) (H : Type) (enc : TypeId × Value → H) :
    ReturnsInHanded {} Try.checked os 6 .any (Rows.resolveMergesSpec.pre6 enc Try.prog Try.f6 Rows.resolveMergesRow.domain false) (Rows.resolveMergesSpec.post enc Try.prog Try.f6 false true false false) := by
  refine returnsInHanded_of_change (C := Try.checked) own started (by kernel_rfl) Try.func6
    (ChangeSpec.witness6 (enc := enc) (C := Try.checked) false ⟨#[], #[.slice none 0 0, .slice none 0 0, .slice none 0 0, .int .u8 0], []⟩ 8 (by kernel_rfl) (by kernel_rfl) (by kernel_rfl) (by kernel_rfl)) ?_
  intro W base args ds gs before hval0 hW hcnd _
  have hval : ∀ (j : Nat) t v, Try.f6.params[j]? = some t → args[j]? = some v → Value.okWide Try.prog W .any base t v := hval0
  have hW' := hW
  obtain ⟨p, q, hA0, hV, rfl, hfz, hnd⟩ := hW
  have hA : DataW.TrodAll enc Try.prog W 0 (fun _ => true) true Try.f6.params.toList args.toList ds p := hA0
  rw [Try.params6] at hA hval
  obtain ⟨v0, vs0, d0, ds0, p0, q0, hargs, rfl, rfl, h0, r0⟩ := trodAll_cons hA
  obtain ⟨v1, vs1, d1, ds1, p1, q1, rfl, rfl, rfl, h1, r1⟩ := trodAll_cons r0
  obtain ⟨v2, vs2, d2, ds2, p2, q2, rfl, rfl, rfl, h2, r2⟩ := trodAll_cons r1
  obtain ⟨v3, vs3, d3, ds3, p3, q3, rfl, rfl, rfl, h3, r3⟩ := trodAll_cons r2
  obtain ⟨rfl, rfl, rfl⟩ := trodAll_nil r3
  obtain rfl : args = #[v0, v1, v2, v3] := by cases args; simp_all
  obtain ⟨x0, ⟨P0, w0, rfl⟩, i0⟩ := (open_linesT).arg Try.underlying22 rfl (hval 0 22 v0 rfl rfl) h0 (by first | (rintro _ ⟨_, rfl⟩; rfl) | (rintro _ ⟨_, _, rfl⟩; rfl))
  obtain ⟨x1, ⟨P1, w1, rfl⟩, i1⟩ := (open_linesT).arg Try.underlying22 rfl (hval 1 22 v1 rfl rfl) h1 (by first | (rintro _ ⟨_, rfl⟩; rfl) | (rintro _ ⟨_, _, rfl⟩; rfl))
  obtain ⟨x2, ⟨P2, w2, rfl⟩, i2⟩ := (open_linesT).arg Try.underlying22 rfl (hval 2 22 v2 rfl rfl) h2 (by first | (rintro _ ⟨_, rfl⟩; rfl) | (rintro _ ⟨_, _, rfl⟩; rfl))
  obtain ⟨x3, ⟨P3, w3, rfl⟩, i3⟩ := (Opens.int Try.underlying5).arg Try.underlying5 rfl (hval 3 5 v3 rfl rfl) h3 (by first | (rintro _ ⟨_, rfl⟩; rfl) | (rintro _ ⟨_, _, rfl⟩; rfl))
  have hcall := law_calls (W := W) (vs := [v0, v1, v2, v3]) (ResolveMerges_walk P0 P1 P2 P3 w0 w1 w2 (u8_b w3).1 (u8_b w3).2) (b := true) (fun t o h => h.1) rfl (fun j t v ht hv => by
    match j with
    | 0 => simp at ht hv; subst ht; subst hv; exact ⟨_, rfl, i0⟩
    | 1 => simp at ht hv; subst ht; subst hv; exact ⟨_, rfl, i1⟩
    | 2 => simp at ht hv; subst ht; subst hv; exact ⟨_, rfl, i2⟩
    | 3 => simp at ht hv; subst ht; subst hv; exact ⟨_, rfl, i3⟩
    | j + 4 => simp at ht)
  refine hcall.mono fun e W' ⟨he, hb⟩ => ?_
  subst he
  obtain ⟨rfl, rfl⟩ := trodVars_none hV
  exact ⟨_, rfl, law_post laidOut rfl (by kernel_rfl) Try.underlying4 (by
    rw [Try.params6]
    intro t ht
    simp at ht
    rcases ht with rfl | rfl | rfl | rfl <;> exact ⟨by kernel_rfl, of_decide_eq_true (by kernel_rfl)⟩) hW' hb (fun ds' hl => by
    rw [show Try.f6.params.size = 4 by kernel_rfl] at hl
    match ds', hl with
    | [a0, a1, a2, a3], _ => rfl)⟩

/-- THE STATEMENT. -/
theorem ResolveMerges_proved : Rows.ResolveMergesSaid :=
  OpenClaim.holds_of_wide 6 Try.f6 rfl rfl rfl rfl rfl rfl rfl ⟨rfl, rfl, rfl, rfl, rfl⟩ rfl rfl rfl rfl rfl (by kernel_rfl) Try.func6 (by kernel_rfl)
    (of_decide_eq_true (by kernel_rfl)) (by unfold Func.isWrapper; first | (rw [if_pos (by decide +kernel)]; kernel_rfl) | (rw [if_neg (by decide +kernel)]; exact ⟨rfl, rfl⟩))
    (fun os started H enc _ => ResolveMerges_lifted os started H enc)
#print axioms ResolveMerges_proved
end Go.Proofs.Ytmocgjimlhgejaa
