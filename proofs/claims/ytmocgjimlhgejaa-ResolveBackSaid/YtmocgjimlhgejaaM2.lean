/- THE STATEMENT ResolveBack: for every input the law answers true, and its input reads as it did. -/
import Derived.Test.YtmocgjimlhgejaaU16
import Derived.Test.YtmocgjimlhgejaaLC
namespace Go.Proofs.Ytmocgjimlhgejaa
open Go.PL Go.ChangeShapes Go.WideShapes Go.ChangeAt Go.RowKit
set_option maxRecDepth 100000
set_option linter.unusedSimpArgs false
set_option linter.unusedVariables false
theorem ResolveBack_lifted (os : Os) (started : os.Started) (H : Type) (enc : TypeId × Value → H) :
    ReturnsInHanded {} Try.checked os 5 .any (Rows.resolveBackSpec.pre6 enc Try.prog Try.f5 Rows.resolveBackRow.domain false) (Rows.resolveBackSpec.post enc Try.prog Try.f5 false true false false) := by
  refine returnsInHanded_of_change (C := Try.checked) own started (by kernel_rfl) Try.func5
    (ChangeSpec.witness6 (enc := enc) (C := Try.checked) false ⟨#[], #[.slice none 0 0], []⟩ 8 (by kernel_rfl) (by kernel_rfl) (by kernel_rfl) (by kernel_rfl)) ?_
  intro W base args ds gs before hval0 hW hcnd _
  have hval : ∀ (j : Nat) t v, Try.f5.params[j]? = some t → args[j]? = some v → Value.okWide Try.prog W .any base t v := hval0
  have hW' := hW
  obtain ⟨p, q, hA0, hV, rfl, hfz, hnd⟩ := hW
  have hA : DataW.TrodAll enc Try.prog W 0 (fun _ => true) true Try.f5.params.toList args.toList ds p := hA0
  rw [Try.params5] at hA hval
  obtain ⟨v0, vs0, d0, ds0, p0, q0, hargs, rfl, rfl, h0, r0⟩ := trodAll_cons hA
  obtain ⟨rfl, rfl, rfl⟩ := trodAll_nil r0
  obtain rfl : args = #[v0] := by cases args; simp_all
  obtain ⟨x0, ⟨P0, rfl⟩, i0⟩ := (open_lines).arg Try.underlying22 rfl (hval 0 22 v0 rfl rfl) h0 (by first | (rintro _ ⟨_, rfl⟩; rfl) | (rintro _ ⟨_, _, rfl⟩; rfl))
  have hcall := law_calls (W := W) (vs := [v0]) (ResolveBack_walk P0) (b := true) (fun t o h => h.1) rfl (fun j t v ht hv => by
    match j with
    | 0 => simp at ht hv; subst ht; subst hv; exact ⟨_, rfl, i0⟩
    | j + 1 => simp at ht)
  refine hcall.mono fun e W' ⟨he, hb⟩ => ?_
  subst he
  obtain ⟨rfl, rfl⟩ := trodVars_none hV
  exact ⟨_, rfl, law_post laidOut rfl (by kernel_rfl) Try.underlying4 (by
    rw [Try.params5]
    intro t ht
    simp at ht
    rcases ht with rfl <;> exact ⟨by kernel_rfl, of_decide_eq_true (by kernel_rfl)⟩) hW' hb (fun ds' hl => by
    rw [show Try.f5.params.size = 1 by kernel_rfl] at hl
    match ds', hl with
    | [a0], _ => rfl)⟩

/-- THE STATEMENT. -/
theorem ResolveBack_proved : Rows.ResolveBackSaid :=
  OpenClaim.holds_of_wide 5 Try.f5 rfl rfl rfl rfl rfl rfl rfl ⟨rfl, rfl, rfl, rfl, rfl⟩ rfl rfl rfl rfl rfl (by kernel_rfl) Try.func5 (by kernel_rfl)
    (of_decide_eq_true (by kernel_rfl)) (by unfold Func.isWrapper; first | (rw [if_pos (by decide +kernel)]; kernel_rfl) | (rw [if_neg (by decide +kernel)]; exact ⟨rfl, rfl⟩))
    (fun os started H enc _ => ResolveBack_lifted os started H enc)
#print axioms ResolveBack_proved
end Go.Proofs.Ytmocgjimlhgejaa
