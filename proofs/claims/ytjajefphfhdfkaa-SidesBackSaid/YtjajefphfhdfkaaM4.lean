/- THE STATEMENT SidesBack: for every input the law answers true, and its input reads as it did. -/
import Derived.Test.YtjajefphfhdfkaaR9
import Derived.Test.YtjajefphfhdfkaaLC
namespace Go.Proofs.Ytjajefphfhdfkaa
open Go.PL Go.ChangeShapes Go.WideShapes Go.ChangeAt Go.RowKit
set_option maxRecDepth 100000
set_option linter.unusedSimpArgs false
set_option linter.unusedVariables false
theorem SidesBack_lifted (os : Os) (started : os.Started) (H : Type) (enc : TypeId × Value → H) :
    ReturnsInHanded {} Try.checked os 6 .any (Rows.sidesBackSpec.pre6 enc Try.prog Try.f6 Rows.sidesBackRow.domain false) (Rows.sidesBackSpec.post enc Try.prog Try.f6 false true false false) := by
  refine returnsInHanded_of_change_sized (C := Try.checked) own started (by kernel_rfl) Try.func6
    (ChangeSpec.witness6 (enc := enc) (C := Try.checked) false ⟨#[], #[.slice none 0 0, .int .u8 0], []⟩ 8 (by kernel_rfl) (by kernel_rfl) (by kernel_rfl) (by kernel_rfl)) ?_
  intro W base args ds gs before hval0 hW hcnd hz _
  have hval : ∀ (j : Nat) t v, Try.f6.params[j]? = some t → args[j]? = some v → Value.okWide Try.prog W .any base t v := hval0
  have hW' := hW
  obtain ⟨p, q, hA0, hV, rfl, hfz, hnd⟩ := hW
  have hA : DataW.TrodAll enc Try.prog W 0 (fun _ => true) true Try.f6.params.toList args.toList ds p := hA0
  rw [Try.params6] at hA hval hz
  obtain ⟨v0, vs0, d0, ds0, p0, q0, hargs, rfl, rfl, h0, r0⟩ := trodAll_cons hA
  obtain ⟨v1, vs1, d1, ds1, p1, q1, rfl, rfl, rfl, h1, r1⟩ := trodAll_cons r0
  obtain ⟨rfl, rfl, rfl⟩ := trodAll_nil r1
  obtain rfl : args = #[v0, v1] := by cases args; simp_all
  obtain ⟨x0, ⟨P0, hP0, rfl⟩, i0⟩ := (open_edits).arg Try.underlying22 rfl (hval 0 22 v0 rfl rfl) h0 (sized_arg hz (j := 0) rfl rfl) (by first | (rintro _ ⟨_, rfl⟩; rfl) | (rintro _ ⟨_, _, rfl⟩; rfl))
  obtain ⟨x1, ⟨P1, hP1, rfl⟩, i1⟩ := (Opens.int Try.underlying5).arg Try.underlying5 rfl (hval 1 5 v1 rfl rfl) h1 (by first | (rintro _ ⟨_, rfl⟩; rfl) | (rintro _ ⟨_, _, rfl⟩; rfl))
  have hcall := law_calls (W := W) (vs := [v0, v1]) (SidesBack_walk P0 P1 hP0 (u8_b hP1).1 (u8_b hP1).2) (b := true) (fun t o h => h.1) rfl (fun j t v ht hv => by
    match j with
    | 0 => simp at ht hv; subst ht; subst hv; exact ⟨_, rfl, i0⟩
    | 1 => simp at ht hv; subst ht; subst hv; exact ⟨_, rfl, i1⟩
    | j + 2 => simp at ht)
  refine hcall.mono fun e W' ⟨he, hb⟩ => ?_
  subst he
  obtain ⟨rfl, rfl⟩ := trodVars_none hV
  exact ⟨_, rfl, law_post laidOut rfl (by kernel_rfl) Try.underlying4 (by
    rw [Try.params6]
    intro t ht
    simp at ht
    rcases ht with rfl | rfl <;> exact ⟨by kernel_rfl, of_decide_eq_true (by kernel_rfl)⟩) hW' hb (fun ds' hl => by
    rw [show Try.f6.params.size = 2 by kernel_rfl] at hl
    match ds', hl with
    | [a0, a1], _ => rfl)⟩

/-- THE STATEMENT. -/
theorem SidesBack_proved : Rows.SidesBackSaid :=
  OpenClaim.holds_of_wide 6 Try.f6 rfl rfl rfl rfl rfl rfl rfl ⟨rfl, rfl, rfl, rfl, rfl⟩ rfl rfl rfl rfl rfl (by kernel_rfl) Try.func6 (by kernel_rfl)
    (of_decide_eq_true (by kernel_rfl)) (by unfold Func.isWrapper; first | (rw [if_pos (by decide +kernel)]; kernel_rfl) | (rw [if_neg (by decide +kernel)]; exact ⟨rfl, rfl⟩))
    (fun os started H enc _ => SidesBack_lifted os started H enc)
#print axioms SidesBack_proved
end Go.Proofs.Ytjajefphfhdfkaa
