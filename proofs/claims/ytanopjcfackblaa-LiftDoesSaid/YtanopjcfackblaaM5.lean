/- THE STATEMENT LiftDoes: for every input the law answers true, and its input reads as it did. -/
import Derived.Test.YtanopjcfackblaaE15
import Derived.Test.YtanopjcfackblaaLC
namespace Go.Proofs.Ytanopjcfackblaa
open Go.PL Go.ChangeShapes Go.WideShapes Go.ChangeAt Go.RowKit
set_option maxRecDepth 100000
set_option linter.unusedSimpArgs false
set_option linter.unusedVariables false
theorem LiftDoes_lifted (os : Os) (started : os.Started) (H : Type) (enc : TypeId × Value → H) :
    ReturnsInHanded {} Try.checked os 3 .any (Rows.liftDoesSpec.pre6 enc Try.prog Try.f3 Rows.liftDoesRow.domain false) (Rows.liftDoesSpec.post enc Try.prog Try.f3 false true false false) := by
  refine returnsInHanded_of_change (C := Try.checked) own started (by kernel_rfl) Try.func3
    (ChangeSpec.witness6 (enc := enc) (C := Try.checked) false ⟨#[], #[.slice none 0 0, .agg #[.slice none 0 0, .slice none 0 0], .agg #[.int .i64 0, .int .u64 0], .slice none 0 0, .int .i64 0], []⟩ 8 (by kernel_rfl) (by kernel_rfl) (by kernel_rfl) (by kernel_rfl)) ?_
  intro W base args ds gs before hval0 hW hcnd _
  have hval : ∀ (j : Nat) t v, Try.f3.params[j]? = some t → args[j]? = some v → Value.okWide Try.prog W .any base t v := hval0
  have hW' := hW
  obtain ⟨p, q, hA0, hV, rfl, hfz, hnd⟩ := hW
  have hA : DataW.TrodAll enc Try.prog W 0 (fun _ => true) true Try.f3.params.toList args.toList ds p := hA0
  rw [Try.params3] at hA hval
  obtain ⟨v0, vs0, d0, ds0, p0, q0, hargs, rfl, rfl, h0, r0⟩ := trodAll_cons hA
  obtain ⟨v1, vs1, d1, ds1, p1, q1, rfl, rfl, rfl, h1, r1⟩ := trodAll_cons r0
  obtain ⟨v2, vs2, d2, ds2, p2, q2, rfl, rfl, rfl, h2, r2⟩ := trodAll_cons r1
  obtain ⟨v3, vs3, d3, ds3, p3, q3, rfl, rfl, rfl, h3, r3⟩ := trodAll_cons r2
  obtain ⟨v4, vs4, d4, ds4, p4, q4, rfl, rfl, rfl, h4, r4⟩ := trodAll_cons r3
  obtain ⟨rfl, rfl, rfl⟩ := trodAll_nil r4
  obtain rfl : args = #[v0, v1, v2, v3, v4] := by cases args; simp_all
  obtain ⟨x0, ⟨P0, rfl⟩, i0⟩ := (open_items).arg Try.underlying22 rfl (hval 0 22 v0 rfl rfl) h0 (by first | (rintro _ ⟨_, rfl⟩; rfl) | (rintro _ ⟨_, _, rfl⟩; rfl))
  obtain ⟨x1, ⟨P1, Q1, w1, rfl⟩, i1⟩ := (open_view).argA Try.underlying26 rfl (hval 1 26 v1 rfl rfl) h1 (by first | (rintro _ ⟨_, rfl⟩; exact ⟨_, rfl⟩) | (rintro _ ⟨_, _, _, rfl⟩; exact ⟨_, rfl⟩))
  obtain ⟨x2, ⟨P2, rfl⟩, i2⟩ := (open_label).argA Try.underlying29 rfl (hval 2 29 v2 rfl rfl) h2 (by first | (rintro _ ⟨_, rfl⟩; exact ⟨_, rfl⟩) | (rintro _ ⟨_, _, _, rfl⟩; exact ⟨_, rfl⟩))
  obtain ⟨x3, ⟨P3, rfl⟩, i3⟩ := (open_mades).arg Try.underlying30 rfl (hval 3 30 v3 rfl rfl) h3 (by first | (rintro _ ⟨_, rfl⟩; rfl) | (rintro _ ⟨_, _, rfl⟩; rfl))
  obtain ⟨x4, ⟨P4, _, rfl⟩, i4⟩ := (Opens.int Try.underlying3).arg Try.underlying3 rfl (hval 4 3 v4 rfl rfl) h4 (by first | (rintro _ ⟨_, rfl⟩; rfl) | (rintro _ ⟨_, _, rfl⟩; rfl))
  have hcall := law_calls (W := W) (vs := [v0, v1, v2, v3, v4]) (LiftDoes_walk P0 P1 Q1 P2 P3 P4 w1) (b := true) (fun t o h => h.1) rfl (fun j t v ht hv => by
    match j with
    | 0 => simp at ht hv; subst ht; subst hv; exact ⟨_, rfl, i0⟩
    | 1 => simp at ht hv; subst ht; subst hv; exact ⟨_, rfl, i1⟩
    | 2 => simp at ht hv; subst ht; subst hv; exact ⟨_, rfl, i2⟩
    | 3 => simp at ht hv; subst ht; subst hv; exact ⟨_, rfl, i3⟩
    | 4 => simp at ht hv; subst ht; subst hv; exact ⟨_, rfl, i4⟩
    | j + 5 => simp at ht)
  refine hcall.mono fun e W' ⟨he, hb⟩ => ?_
  subst he
  obtain ⟨rfl, rfl⟩ := trodVars_none hV
  exact ⟨_, rfl, law_post laidOut rfl (by kernel_rfl) Try.underlying4 (by
    rw [Try.params3]
    intro t ht
    simp at ht
    rcases ht with rfl | rfl | rfl | rfl | rfl <;> exact ⟨by kernel_rfl, of_decide_eq_true (by kernel_rfl)⟩) hW' hb (fun ds' hl => by
    rw [show Try.f3.params.size = 5 by kernel_rfl] at hl
    match ds', hl with
    | [a0, a1, a2, a3, a4], _ => rfl)⟩

/-- THE STATEMENT. -/
theorem LiftDoes_proved : Rows.LiftDoesSaid :=
  OpenClaim.holds_of_wide 3 Try.f3 rfl rfl rfl rfl rfl rfl rfl ⟨rfl, rfl, rfl, rfl, rfl⟩ rfl rfl rfl rfl rfl (by kernel_rfl) Try.func3 (by kernel_rfl)
    (of_decide_eq_true (by kernel_rfl)) (by unfold Func.isWrapper; first | (rw [if_pos (by decide +kernel)]; kernel_rfl) | (rw [if_neg (by decide +kernel)]; exact ⟨rfl, rfl⟩))
    (fun os started H enc _ => LiftDoes_lifted os started H enc)
#print axioms LiftDoes_proved
end Go.Proofs.Ytanopjcfackblaa
