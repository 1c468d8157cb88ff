/- THE STATEMENT FindLines: for every input the law answers true, and its input reads as it did. -/
import Derived.Test.YtjlnialglahdoaaH21
import Derived.Test.YtjlnialglahdoaaLC
namespace Go.Proofs.Ytjlnialglahdoaa
open Go.PL Go.ChangeShapes Go.WideShapes Go.ChangeAt Go.RowKit
set_option maxRecDepth 100000
set_option linter.unusedSimpArgs false
set_option linter.unusedVariables false
theorem FindLines_lifted (os : Os) (started : os.Started) (H : Type) (enc : TypeId × Value → H) :
    ReturnsInHanded {} Try.checked os 7 .any (Rows.findLinesSpec.pre6 enc Try.prog Try.f7 Rows.findLinesRow.domain false) (Rows.findLinesSpec.post enc Try.prog Try.f7 false true false false) := by
  refine returnsInHanded_of_change (C := Try.checked) own started (by kernel_rfl) Try.func7
    (ChangeSpec.witness6 (enc := enc) (C := Try.checked) false ⟨#[], #[.slice none 0 0, .string ByteArray.empty, .int .i64 0], []⟩ 8 (by kernel_rfl) (by kernel_rfl) (by kernel_rfl) (by kernel_rfl)) ?_
  intro W base args ds gs before hval0 hW hcnd _
  have hval : ∀ (j : Nat) t v, Try.f7.params[j]? = some t → args[j]? = some v → Value.okWide Try.prog W .any base t v := hval0
  have hW' := hW
  obtain ⟨p, q, hA0, hV, rfl, hfz, hnd⟩ := hW
  have hA : DataW.TrodAll enc Try.prog W 0 (fun _ => true) true Try.f7.params.toList args.toList ds p := hA0
  rw [Try.params7] at hA hval
  obtain ⟨v0, vs0, d0, ds0, p0, q0, hargs, rfl, rfl, h0, r0⟩ := trodAll_cons hA
  obtain ⟨v1, vs1, d1, ds1, p1, q1, rfl, rfl, rfl, h1, r1⟩ := trodAll_cons r0
  obtain ⟨v2, vs2, d2, ds2, p2, q2, rfl, rfl, rfl, h2, r2⟩ := trodAll_cons r1
  obtain ⟨rfl, rfl, rfl⟩ := trodAll_nil r2
  obtain rfl : args = #[v0, v1, v2] := by cases args; simp_all
  obtain ⟨x0, ⟨P0, rfl⟩, i0⟩ := (open_lines).arg Try.underlying39 rfl (hval 0 39 v0 rfl rfl) h0 (by first | (rintro _ ⟨_, rfl⟩; rfl) | (rintro _ ⟨_, _, rfl⟩; rfl))
  obtain ⟨x1, ⟨P1, rfl⟩, i1⟩ := (open_str).arg Try.underlying9 rfl (hval 1 9 v1 rfl rfl) h1 (by first | (rintro _ ⟨_, rfl⟩; rfl) | (rintro _ ⟨_, _, rfl⟩; rfl))
  obtain ⟨x2, ⟨P2, _, rfl⟩, i2⟩ := (Opens.int Try.underlying3).arg Try.underlying3 rfl (hval 2 3 v2 rfl rfl) h2 (by first | (rintro _ ⟨_, rfl⟩; rfl) | (rintro _ ⟨_, _, rfl⟩; rfl))
  have hcall := law_calls (W := W) (vs := [v0, v1, v2]) (FindLines_walk P0 P1 P2) (b := true) (fun t o h => h.1) rfl (fun j t v ht hv => by
    match j with
    | 0 => simp at ht hv; subst ht; subst hv; exact ⟨_, rfl, i0⟩
    | 1 => simp at ht hv; subst ht; subst hv; exact ⟨_, rfl, i1⟩
    | 2 => simp at ht hv; subst ht; subst hv; exact ⟨_, rfl, i2⟩
    | j + 3 => simp at ht)
  refine hcall.mono fun e W' ⟨he, hb⟩ => ?_
  subst he
  obtain ⟨rfl, rfl⟩ := trodVars_none hV
  exact ⟨_, rfl, law_post laidOut rfl (by kernel_rfl) Try.underlying4 (by
    rw [Try.params7]
    intro t ht
    simp at ht
    rcases ht with rfl | rfl | rfl <;> exact ⟨by kernel_rfl, of_decide_eq_true (by kernel_rfl)⟩) hW' hb (fun ds' hl => by
    rw [show Try.f7.params.size = 3 by kernel_rfl] at hl
    match ds', hl with
    | [a0, a1, a2], _ => rfl)⟩

/-- THE STATEMENT. -/
theorem FindLines_proved : Rows.FindLinesSaid :=
  OpenClaim.holds_of_wide 7 Try.f7 rfl rfl rfl rfl rfl rfl rfl ⟨rfl, rfl, rfl, rfl, rfl⟩ rfl rfl rfl rfl rfl (by kernel_rfl) Try.func7 (by kernel_rfl)
    (of_decide_eq_true (by kernel_rfl)) (by unfold Func.isWrapper; first | (rw [if_pos (by decide +kernel)]; kernel_rfl) | (rw [if_neg (by decide +kernel)]; exact ⟨rfl, rfl⟩))
    (fun os started H enc _ => FindLines_lifted os started H enc)
#print axioms FindLines_proved
end Go.Proofs.Ytjlnialglahdoaa
