/- THE STATEMENT MatchTurns: for every input the law answers true, and its input reads as it did. -/
import Derived.Test.YtlpoajojkkfhhaaF10
import Derived.Test.YtlpoajojkkfhhaaKBC
import Derived.Test.YtlpoajojkkfhhaaRows
namespace Go.Proofs.Ytlpoajojkkfhhaa
open Go.PL Go.ChangeShapes Go.WideShapes Go.ChangeAt Go.RowKit
set_option maxRecDepth 100000
set_option linter.unusedSimpArgs false
set_option linter.unusedVariables false
theorem own : ownKnob Try.prog.godebug = none := by kernel_rfl
theorem laidOut : laidOutB Try.prog = true := by kernel_rfl
/-- What a row of pairs reads as. -/
theorem map_of {α : Type} {f : α → IV} : ∀ (xs : List IV), (∀ y ∈ xs, ∃ a, y = f a) → ∃ p : List α, xs = p.map f
  | [], _ => ⟨[], rfl⟩
  | x :: xs, h => by
    obtain ⟨a, rfl⟩ := h x (List.mem_cons_self ..)
    obtain ⟨p, rfl⟩ := map_of xs (fun y hy => h y (List.mem_cons_of_mem _ hy))
    exact ⟨a :: p, rfl⟩
theorem open_pairs : Opens Try.prog 22 (fun x => ∃ p : List (Int × Int), x = .sl 2 (p.map encP)) := by
  intro H enc W base sp held fuel cs y h
  obtain ⟨x, ⟨xs, hxs, rfl⟩, hx⟩ := (Opens.slice Try.underlying22 (sz := 2) (by kernel_rfl) (Opens.arr Try.underlying33 (by kernel_rfl) (Opens.int Try.underlying3))) H enc W base sp held fuel cs y h
  obtain ⟨p, rfl⟩ := map_of (f := encP) xs (fun y hy => by
    obtain ⟨zs, hl, hz, rfl⟩ := hxs y hy
    match zs, hl with
    | [z0, z1], _ =>
      obtain ⟨a, _, rfl⟩ := hz z0 (by simp)
      obtain ⟨b, _, rfl⟩ := hz z1 (by simp)
      exact ⟨(a, b), rfl⟩)
  exact ⟨_, ⟨p, rfl⟩, hx⟩
theorem i8_bounds {n : Int} (h : (Lit.int .i8 n).wf = true) : -128 ≤ n ∧ n ≤ 127 := by
  simp [Lit.wf, IntKind.min, IntKind.max, IntKind.signed, IntKind.bits] at h
  omega

theorem MatchTurns_lifted (os : Os) (started : os.Started) (H : Type) (enc : TypeId × Value → H) :
    ReturnsInHanded {} Try.checked os 3 .any (Rows.matchTurnsSpec.pre6 enc Try.prog Try.f3 Rows.matchTurnsRow.domain false) (Rows.matchTurnsSpec.post enc Try.prog Try.f3 false true false false) := by
  refine returnsInHanded_of_change (C := Try.checked) own started (by kernel_rfl) Try.func3
    (ChangeSpec.witness6 (enc := enc) (C := Try.checked) false ⟨#[], #[.slice none 0 0, .int .i8 0, .int .i8 0], []⟩ 8 (by kernel_rfl) (by kernel_rfl) (by kernel_rfl) (by kernel_rfl)) ?_
  intro W base args ds gs before hval0 hW hcnd _
  have hval : ∀ (j : Nat) t v, Try.f3.params[j]? = some t → args[j]? = some v → Value.okWide Try.prog W .any base t v := hval0
  have hW' := hW
  obtain ⟨p, q, hA0, hV, rfl, hfz, hnd⟩ := hW
  have hA : DataW.TrodAll enc Try.prog W 0 (fun _ => true) true Try.f3.params.toList args.toList ds p := hA0
  rw [Try.params3] at hA hval
  obtain ⟨v0, vs0, d0, ds0, p0, q0, hargs, rfl, rfl, h0, r0⟩ := trodAll_cons hA
  obtain ⟨v1, vs1, d1, ds1, p1, q1, rfl, rfl, rfl, h1, r1⟩ := trodAll_cons r0
  obtain ⟨v2, vs2, d2, ds2, p2, q2, rfl, rfl, rfl, h2, r2⟩ := trodAll_cons r1
  obtain ⟨rfl, rfl, rfl⟩ := trodAll_nil r2
  obtain rfl : args = #[v0, v1, v2] := by cases args; simp_all
  obtain ⟨x0, ⟨P0, rfl⟩, i0⟩ := open_pairs.arg Try.underlying22 rfl (hval 0 22 v0 rfl rfl) h0 (by rintro _ ⟨p, rfl⟩; rfl)
  obtain ⟨x1, ⟨n1, w1, rfl⟩, i1⟩ := (Opens.int Try.underlying23).arg Try.underlying23 rfl (hval 1 23 v1 rfl rfl) h1 (by rintro _ ⟨p, _, rfl⟩; rfl)
  obtain ⟨x2, ⟨n2, w2, rfl⟩, i2⟩ := (Opens.int Try.underlying23).arg Try.underlying23 rfl (hval 2 23 v2 rfl rfl) h2 (by rintro _ ⟨p, _, rfl⟩; rfl)
  have hcall := law_calls (W := W) (vs := [v0, v1, v2]) (MatchTurns_walk P0 n1 n2 (i8_bounds w1) (i8_bounds w2)) (b := true) (fun t o h => h.1) rfl (fun j t v ht hv => by
    match j with
    | 0 => simp at ht hv; subst ht; subst hv; exact ⟨_, rfl, i0⟩
    | 1 => simp at ht hv; subst ht; subst hv; exact ⟨_, rfl, i1⟩
    | 2 => simp at ht hv; subst ht; subst hv; exact ⟨_, rfl, i2⟩
    | j + 3 => simp at ht)
  refine hcall.mono fun e W' ⟨he, hb⟩ => ?_
  subst he
  obtain ⟨rfl, rfl⟩ := trodVars_none hV
  exact ⟨_, rfl, law_post laidOut rfl (by kernel_rfl) Try.underlying4 (by
    rw [Try.params3]
    intro t ht
    simp at ht
    rcases ht with rfl | rfl | rfl <;> exact ⟨by kernel_rfl, of_decide_eq_true (by kernel_rfl)⟩) hW' hb (fun ds' hl => by
    rw [show Try.f3.params.size = 3 by kernel_rfl] at hl
    match ds', hl with
    | [a, b, c], _ => rfl)⟩

/-- THE STATEMENT. -/
theorem MatchTurns_proved : Rows.MatchTurnsSaid :=
  OpenClaim.holds_of_wide 3 Try.f3 rfl rfl rfl rfl rfl rfl rfl ⟨rfl, rfl, rfl, rfl, rfl⟩ rfl rfl rfl rfl rfl (by kernel_rfl) Try.func3 (by kernel_rfl)
    (of_decide_eq_true (by kernel_rfl)) (by unfold Func.isWrapper; first | (rw [if_pos (by decide +kernel)]; kernel_rfl) | (rw [if_neg (by decide +kernel)]; exact ⟨rfl, rfl⟩))
    (fun os started H enc _ => MatchTurns_lifted os started H enc)
#print axioms MatchTurns_proved
end Go.Proofs.Ytlpoajojkkfhhaa
